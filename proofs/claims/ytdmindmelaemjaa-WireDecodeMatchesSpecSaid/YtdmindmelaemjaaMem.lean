/- Words on memory for this seat's walks: a slice that is read, a row of the call's own that is appended to; lists of numbers as cells. -/
import Derived.Below
import Derived.OwnWalk
import Derived.Maps.AppendAt
import Derived.Deep.AppendLies
import Derived.Lib.Hide
import Derived.Lib.AppendStr
import Derived.Lib.ConvBytes
import Derived.Laws.BytesArg
import Derived.Deep.WholeRow
namespace Go.Proofs.Ytdmindmelaemjaa
open Go.RowKit
set_option autoImplicit false

def u8s (xs : List UInt8) : List Value := xs.map fun b => Value.int .u8 (b.toNat : Int)
def i64s (xs : List Int) : List Value := xs.map fun x => Value.int .i64 x
def strs (xs : List ByteArray) : List Value := xs.map fun x => Value.string x
theorem u8s_len (xs : List UInt8) : (u8s xs).length = xs.length := by simp [u8s]
theorem i64s_len (xs : List Int) : (i64s xs).length = xs.length := by simp [i64s]
theorem strs_len (xs : List ByteArray) : (strs xs).length = xs.length := by simp [strs]
theorem u8s_app (xs ys : List UInt8) : u8s (xs ++ ys) = u8s xs ++ u8s ys := by simp [u8s]
theorem u8s_drop (xs : List UInt8) (k : Nat) : u8s (xs.drop k) = (u8s xs).drop k := by simp [u8s]
theorem u8s_take (xs : List UInt8) (k : Nat) : u8s (xs.take k) = (u8s xs).take k := by simp [u8s]
theorem u8s_one (xs : List UInt8) : ∀ u ∈ u8s xs, u.oneCell' = true := by simp [u8s, Value.oneCell']
theorem i64s_one (xs : List Int) : ∀ u ∈ i64s xs, u.oneCell' = true := by simp [i64s, Value.oneCell']
theorem strs_one (xs : List ByteArray) : ∀ u ∈ strs xs, u.oneCell' = true := by simp [strs, Value.oneCell']
theorem u8s_at {xs : List UInt8} {i : Nat} (h : i < xs.length) : (u8s xs)[i]? = some (.int .u8 (xs[i].toNat : Int)) := by simp [u8s, h]
theorem i64s_at {xs : List Int} {i : Nat} (h : i < xs.length) : (i64s xs)[i]? = some (.int .i64 xs[i]) := by simp [i64s, h]
theorem strs_at {xs : List ByteArray} {i : Nat} (h : i < xs.length) : (strs xs)[i]? = some (.string xs[i]) := by simp [strs, h]
theorem add_zero' (g j : Nat) : (⟨g, 0, none⟩ : Addr).add j = ⟨g, j, none⟩ := by unfold Addr.add; split <;> simp_all
theorem add_block (a : Addr) (n : Nat) : (a.add n).block = a.block := by unfold Addr.add; split <;> rfl
theorem add_add (a : Addr) (i j : Nat) : (a.add i).add j = a.add (i + j) := by
  unfold Addr.add
  by_cases hi : i = 0 <;> by_cases hj : j = 0 <;> simp [hi, hj, Nat.add_assoc]

/-- The slice with address A holds the cells xs. -/
def Seg (w : World) (A : Option Addr) (xs : List Value) : Prop := ∀ j u, xs[j]? = some u → ∃ ad, A = some ad ∧ w.cell? (ad.add j) = some u
section
variable {w w1 : World} {A : Option Addr} {xs : List Value}
theorem Seg.nil (w : World) (A : Option Addr) : Seg w A [] := fun j u h => by simp at h
theorem Seg.below (h : Seg w A xs) (hb : Below w.heap.size w w1) : Seg w1 A xs := fun j u hu => by
  obtain ⟨ad, e, hc⟩ := h j u hu
  exact ⟨ad, e, (hb.cell (World.block_lt_of_cell? w _ hc)).trans hc⟩
theorem Seg.cut (h : Seg w A xs) (k cap : Nat) (hc : xs.length ≤ cap) : Seg w (if cap = k then A else A.map (·.add k)) (xs.drop k) := fun j u hu => by
  rw [List.getElem?_drop] at hu
  have hl := (List.getElem?_eq_some_iff.1 hu).1
  obtain ⟨ad, rfl, hce⟩ := h _ _ hu
  rw [if_neg (by omega)]
  exact ⟨ad.add k, rfl, by rw [add_add]; exact hce⟩
theorem Seg.take (h : Seg w A xs) (k : Nat) : Seg w A (xs.take k) := fun j u hu => by
  rw [List.getElem?_take] at hu
  split at hu
  · exact h j u hu
  · cases hu
theorem Seg.cell {ad : Addr} (h : Seg w (some ad) xs) {j : Nat} {u : Value} (hu : xs[j]? = some u) : w.cell? (ad.add j) = some u := by
  obtain ⟨_, e, hc⟩ := h j u hu
  injection e with e
  rwa [e]
theorem Seg.at_ (h : Seg w A xs) {j : Nat} {u : Value} (hu : xs[j]? = some u) : ∃ ad, A = some ad ∧ w.cell? (ad.add j) = some u := h j u hu
theorem Seg.of_own {base n : Nat} {e : TypeId} {v : Value} (h : w.ownsRow base e 1 v n xs) : ∃ A c, v = .slice A n c ∧ n ≤ c ∧ Seg w A xs := by
  rcases h.2 with ⟨rfl, rfl⟩ | ⟨g, cap, cur, rfl, hb, hh, hnc, _⟩
  · refine ⟨none, 0, rfl, Nat.le_refl _, ?_⟩
    have hx : xs = [] := List.eq_nil_of_length_eq_zero (by simpa using h.1)
    subst hx
    exact Seg.nil _ _
  · exact ⟨_, cap, rfl, hnc, fun j u hu => ⟨_, rfl, h.cells (g := g) rfl j u hu⟩⟩
end

section
variable {w w1 : World} {base n : Nat} {e : TypeId} {v : Value} {xs : List Value}
theorem own_base {size : Nat} (h : w.ownsRow base e size v n xs) (k : Nat) (hk : v.ownBlock = some k) : base ≤ k := (h.lt k hk).1
theorem own_ne_new {size B : Nat} (h : w.ownsRow base e size v n xs) (hB : w.heap.size ≤ B) : v.ownBlock = none ∨ v.ownBlock ≠ some B := by
  cases hv : v.ownBlock with
  | none => exact .inl rfl
  | some k => exact .inr (fun hh => by have := (h.lt k hv).2; injection hh with hh; omega)
theorem own_below {size : Nat} (h : w.ownsRow base e size v n xs) (hb : Below w.heap.size w w1) : w1.ownsRow base e size v n xs :=
  h.kept (row := none) ⟨hb.os, hb.tape, hb.output, hb.size, fun k hk _ => hb.block k hk⟩ (by cases v.ownBlock <;> simp)
theorem own_lower {size b' : Nat} (h : w.ownsRow base e size v n xs) (hb : b' ≤ base) : w.ownsRow b' e size v n xs := by
  refine ⟨h.1, ?_⟩
  rcases h.2 with hn | ⟨g, cap, cur, hv, hg, r⟩
  · exact .inl hn
  · exact .inr ⟨g, cap, cur, hv, Nat.le_trans hb hg, r⟩
theorem below_then {B : Nat} {w0 w1 w2 : World} (h : Below B w0 w1) (hB : B ≤ w1.heap.size) (k : Below w1.heap.size w1 w2) : Below B w0 w2 := h.trans (k.mono hB)
end

section
variable {P : Program} {ops : Array Oper} {rest : List Oper} {o : Oper} {a : Act} {Q : Exit → Act → World → Prop}
/-- append(v, y): one element, behind 'at_builtin'; the world is the new one of the element's own box. -/
theorem app_one {w0 W : World} (base : Nat) (s x : Operand) (t e : TypeId) (z : Value) (bytes : Nat) (hgd : o.guard = none)
    (ho : o.op = .call { callee := .builtin .append, args := #[s, x], argTypes := #[t, t] })
    (ht : P.underlying t = some (.slice e)) (hinfo : (P.info? e).map (fun i => (i.zero, i.size, i.bytes)) = some (some z, 1, bytes)) (hz : z.cells.size = 1) (hb0 : 0 < bytes)
    (v : Value) (n : Nat) (xs : List Value) (y : Value) (hs : a.eval s = v) (hx : a.eval x = .slice (some ⟨W.heap.size, 0, none⟩) 1 1) (h1 : y.oneCell' = true)
    (HO : W.ownsRow base e 1 v n xs) (HB : Below base w0 W) (hbase : base ≤ W.heap.size) (hl : (n + 1) * bytes ≤ 140737488355328)
    (h : ∀ v1 w1, w1.ownsRow base e 1 v1 (n + 1) (xs ++ [y]) → Below base w0 w1 → W.heap.size ≤ w1.heap.size → wpList P ops Q rest (a.put o.dst v1) w1) :
    wpList P ops Q (o :: rest) a (W.alloc (.cells #[y] e)) := by
  obtain ⟨i0, hi, hzz⟩ := Option.map_eq_some_iff.1 hinfo
  simp only [Prod.mk.injEq] at hzz
  obtain ⟨hz0, hz1, hz2⟩ := hzz
  have hlen : n + 1 ≤ 140737488355328 := Nat.le_trans (Nat.le_mul_of_pos_right _ hb0) hl
  refine wpList_append_own_at (W.alloc (.cells #[y] e)) hgd s x t ho base e i0 z 1 bytes ht hi hz0 hz1 hz2 hz (by omega) v n xs hs (HO.alloc _) ⟨W.heap.size, 0, none⟩ 1 1 [y] hx rfl
    (World.news_of_block (cs := #[y]) (t := e) (fr := (0, 0)) (heap_alloc_new W _)) (by simpa using h1) (by simp only [maxLen]; omega) hl (by simp; omega) ?_
  intro v1 w1 hown hg _ _
  exact h v1 w1 hown ((HB.alloc hbase _).grown hg (by simp; omega) (own_base HO)) (Nat.le_trans (by simp) hg.size)
/-- append(v, ys...), ys read; nil let in. -/
theorem app_seg {w0 W : World} (base : Nat) (s x : Operand) (t e : TypeId) (z : Value) (bytes : Nat) (hgd : o.guard = none)
    (ho : o.op = .call { callee := .builtin .append, args := #[s, x], argTypes := #[t, t] })
    (ht : P.underlying t = some (.slice e)) (hinfo : (P.info? e).map (fun i => (i.zero, i.size, i.bytes)) = some (some z, 1, bytes)) (hz : z.cells.size = 1) (hb0 : 0 < bytes)
    (v : Value) (n : Nat) (xs : List Value) (A : Option Addr) (m c : Nat) (ys : List Value) (hs : a.eval s = v) (hx : a.eval x = .slice A m c) (hm : ys.length = m) (hS : Seg W A ys) (h1 : ∀ u ∈ ys, u.oneCell' = true)
    (HO : W.ownsRow base e 1 v n xs) (HB : Below base w0 W) (hbase : base ≤ W.heap.size) (hl : (n + m) * bytes ≤ 140737488355328)
    (h : ∀ v1 w1, w1.ownsRow base e 1 v1 (n + m) (xs ++ ys) → Below base w0 w1 → W.heap.size ≤ w1.heap.size → wpList P ops Q rest (a.put o.dst v1) w1) :
    wpList P ops Q (o :: rest) a W := by
  obtain ⟨i0, hi, hzz⟩ := Option.map_eq_some_iff.1 hinfo
  simp only [Prod.mk.injEq] at hzz
  obtain ⟨hz0, hz1, hz2⟩ := hzz
  have hlen : n + m ≤ 140737488355328 := Nat.le_trans (Nat.le_mul_of_pos_right _ hb0) hl
  rcases A with _ | ad
  · have h0 : m = 0 := by
      rcases Nat.eq_zero_or_pos m with h0 | h0
      · exact h0
      · obtain ⟨_, e', _⟩ := hS 0 _ (List.getElem?_eq_getElem (show 0 < ys.length by omega))
        cases e'
    subst h0
    have hn : ys = [] := List.eq_nil_of_length_eq_zero hm
    subst hn
    refine wpList_plain hgd fun K hK => ?_
    have hr : (Builtin.append_ #[t, t] o.type #[v, .slice none 0 c]).run P W = .ok v W := by
      rcases HO.2 with ⟨rfl, rfl⟩ | ⟨g, cap, cur, rfl, _, _, hnc, _⟩
      · simp [Builtin.append_, run_underlying ht, sizeOf, typeInfo, hi, Builtin.lenOf, Builtin.firstCells]
      · simp [Builtin.append_, run_underlying ht, sizeOf, typeInfo, hi, Builtin.lenOf, Builtin.firstCells, hnc, storeCells]
    unfold Oper.wp execOp
    simp only [ho, resolve, invoke, builtin, Sem.run_bind, Sem.run_pure, Result.andThen_ok, List.map_toArray, List.map_cons, List.map_nil, hs, hx, hr]
    exact hK _ _ (h v W (by simpa using HO) HB (Nat.le_refl _))
  · refine wpList_append_own_at W hgd s x t ho base e i0 z 1 bytes ht hi hz0 hz1 hz2 hz (by omega) v n xs hs HO ad m c ys hx (by omega)
      (fun j u hu => hS.cell hu) h1 (by simp only [maxLen]; omega) hl hbase ?_
    intro v1 w1 hown hg _ _
    exact h v1 w1 hown (HB.grown hg hbase (own_base HO)) hg.size
/-- append(v, s...), s a string. -/
theorem app_str {w0 W : World} (base : Nat) (s x : Operand) (t u e : TypeId) (hgd : o.guard = none)
    (ho : o.op = .call { callee := .builtin .append, args := #[s, x], argTypes := #[t, u] })
    (ht : P.underlying t = some (.slice e)) (hu : P.underlying u = some .string) (hinfo : (P.info? e).map (fun i => (i.zero, i.size, i.bytes)) = some (some (.int .u8 0), 1, 1))
    (v : Value) (n : Nat) (xs : List Value) (y : ByteArray) (hs : a.eval s = v) (hx : a.eval x = .string y)
    (HO : W.ownsRow base e 1 v n xs) (HB : Below base w0 W) (hbase : base ≤ W.heap.size) (hl : n + y.size ≤ 140737488355328)
    (h : ∀ v1 w1, w1.ownsRow base e 1 v1 (n + y.size) (xs ++ u8s y.data.toList) → Below base w0 w1 → W.heap.size ≤ w1.heap.size → wpList P ops Q rest (a.put o.dst v1) w1) :
    wpList P ops Q (o :: rest) a W := by
  obtain ⟨i0, hi, hzz⟩ := Option.map_eq_some_iff.1 hinfo
  simp only [Prod.mk.injEq] at hzz
  obtain ⟨hz0, hz1, hz2⟩ := hzz
  refine Lib.wpList_append_own_string W hgd s x t u ho base e i0 ht hu hi hz0 hz1 hz2 v n xs hs HO y hx (by simp only [maxLen]; omega) hl hbase ?_
  intro v1 w1 hown hg _
  exact h v1 w1 hown (HB.grown hg hbase (own_base HO)) hg.size
end

/-! Strings and their bytes -/
theorem bl_len (s : ByteArray) : s.data.toList.length = s.size := by rw [Array.length_toList]; rfl
/-- '[]byte(s)': what it leaves. -/
theorem conv_bytes {P : Program} (w : World) (src dst e : TypeId) (s : ByteArray) (hs : P.underlying src = some .string) (hd : P.underlying dst = some (.slice e)) (he : P.underlying e = some (.int .u8)) :
    ∃ w1 c, (convert src dst (.string s)).run P w = .ok (.slice (some ⟨w.heap.size, 0, none⟩) s.size c) w1 ∧ s.size ≤ c ∧ Seg w1 (some ⟨w.heap.size, 0, none⟩) (u8s s.data.toList) ∧ Below w.heap.size w w1 := by
  refine ⟨_, _, Lib.run_convert_string_bytes w src dst e s hs hd he, grownCap_ge _ _ _ _, fun j u hu => ⟨_, rfl, ?_⟩, ?_⟩
  · have hj : j < s.size := by have := (List.getElem?_eq_some_iff.1 hu).1; rwa [u8s_len, bl_len] at this
    rw [add_zero', Lib.bytesWorld_cell w e s j hj]
    rw [u8s_at (by rw [bl_len]; exact hj)] at hu
    rw [← hu, List.getD_eq_getElem?_getD, List.getElem?_eq_getElem (by rw [bl_len]; exact hj)]
    rfl
  · exact ⟨rfl, rfl, rfl, by rw [Lib.bytesWorld_size]; omega, fun k hk => Lib.bytesWorld_at_old w e s k hk⟩
section
variable {P : Program} {ops : Array Oper} {rest : List Oper} {o : Oper} {a : Act} {Q : Exit → Act → World → Prop}
theorem op_bytes {W : World} (x : Operand) (src dst e : TypeId) (hgd : o.guard = none) (ho : o.op = .convert src dst x)
    (hs : P.underlying src = some .string) (hd : P.underlying dst = some (.slice e)) (he : P.underlying e = some (.int .u8)) (s : ByteArray) (hx : a.eval x = .string s)
    (h : ∀ w1 c, s.size ≤ c → Seg w1 (some ⟨W.heap.size, 0, none⟩) (u8s s.data.toList) → Below W.heap.size W w1 → wpList P ops Q rest (a.put o.dst (.slice (some ⟨W.heap.size, 0, none⟩) s.size c)) w1) :
    wpList P ops Q (o :: rest) a W := by
  obtain ⟨w1, c, hr, hc, hS, hb⟩ := conv_bytes (P := P) W src dst e s hs hd he
  refine wpList_plain hgd fun K hK => ?_
  unfold Oper.wp execOp
  simp only [ho, hx, Sem.run_bind, hr, Result.andThen_ok]
  exact hK _ _ (h w1 c hc hS hb)
end

/-! A row of the call's own that holds a list: one cell an element. -/
def Own {α : Type} (f : α → Value) (e : TypeId) (w : World) (base : Nat) (v : Value) (xs : List α) : Prop := w.ownsRow base e 1 v xs.length (xs.map f)
def fu8 (b : UInt8) : Value := .int .u8 (b.toNat : Int)
def fint (x : Int) : Value := .int .i64 x
def fstr (x : ByteArray) : Value := .string x
theorem u8s_eq (xs : List UInt8) : u8s xs = xs.map fu8 := rfl
theorem i64s_eq (xs : List Int) : i64s xs = xs.map fint := rfl
theorem strs_eq (xs : List ByteArray) : strs xs = xs.map fstr := rfl
section
variable {α : Type} {f : α → Value} {e : TypeId} {w w1 : World} {base : Nat} {v : Value} {xs : List α}
theorem Own.of {n : Nat} (h : w.ownsRow base e 1 v n (xs.map f)) (hn : n = xs.length) : Own f e w base v xs := by
  subst hn
  exact h
theorem Own.nil (f : α → Value) (e : TypeId) (w : World) (base : Nat) : Own f e w base (.slice none 0 0) [] := World.ownsRow_nil _ _ _ _
theorem Own.below (h : Own f e w base v xs) (hb : Below w.heap.size w w1) : Own f e w1 base v xs := own_below h hb
theorem Own.lower {b' : Nat} (h : Own f e w base v xs) (hb : b' ≤ base) : Own f e w b' v xs := own_lower h hb
theorem Own.seg (h : Own f e w base v xs) : ∃ A c, v = .slice A xs.length c ∧ xs.length ≤ c ∧ Seg w A (xs.map f) := Seg.of_own h
end
section
variable {P : Program} {ops : Array Oper} {rest : List Oper} {o : Oper} {a : Act} {Q : Exit → Act → World → Prop} {α : Type} {f : α → Value}
theorem app1 {w0 W : World} (base : Nat) (s x : Operand) (t e : TypeId) (z : Value) (bytes : Nat) (hgd : o.guard = none)
    (ho : o.op = .call { callee := .builtin .append, args := #[s, x], argTypes := #[t, t] })
    (ht : P.underlying t = some (.slice e)) (hinfo : (P.info? e).map (fun i => (i.zero, i.size, i.bytes)) = some (some z, 1, bytes)) (hz : z.cells.size = 1) (hb0 : 0 < bytes)
    (v : Value) (xs : List α) (y : α) (hs : a.eval s = v) (hx : a.eval x = .slice (some ⟨W.heap.size, 0, none⟩) 1 1) (h1 : (f y).oneCell' = true)
    (HO : Own f e W base v xs) (HB : Below base w0 W) (hbase : base ≤ W.heap.size) (hl : (xs.length + 1) * bytes ≤ 140737488355328)
    (h : ∀ v1 w1, Own f e w1 base v1 (xs ++ [y]) → Below base w0 w1 → W.heap.size ≤ w1.heap.size → wpList P ops Q rest (a.put o.dst v1) w1) :
    wpList P ops Q (o :: rest) a (W.alloc (.cells #[f y] e)) :=
  app_one base s x t e z bytes hgd ho ht hinfo hz hb0 v xs.length (xs.map f) (f y) hs hx h1 HO HB hbase hl fun v1 w1 hown hb hsz =>
    h v1 w1 (Own.of (n := xs.length + 1) (by rw [List.map_append]; exact hown) (by simp)) hb hsz
theorem appS {w0 W : World} (base : Nat) (s x : Operand) (t e : TypeId) (z : Value) (bytes : Nat) (hgd : o.guard = none)
    (ho : o.op = .call { callee := .builtin .append, args := #[s, x], argTypes := #[t, t] })
    (ht : P.underlying t = some (.slice e)) (hinfo : (P.info? e).map (fun i => (i.zero, i.size, i.bytes)) = some (some z, 1, bytes)) (hz : z.cells.size = 1) (hb0 : 0 < bytes)
    (v : Value) (xs : List α) (A : Option Addr) (m c : Nat) (ys : List α) (hs : a.eval s = v) (hx : a.eval x = .slice A m c) (hm : m = ys.length) (hS : Seg W A (ys.map f)) (h1 : ∀ y, (f y).oneCell' = true)
    (HO : Own f e W base v xs) (HB : Below base w0 W) (hbase : base ≤ W.heap.size) (hl : (xs.length + ys.length) * bytes ≤ 140737488355328)
    (h : ∀ v1 w1, Own f e w1 base v1 (xs ++ ys) → Below base w0 w1 → W.heap.size ≤ w1.heap.size → wpList P ops Q rest (a.put o.dst v1) w1) :
    wpList P ops Q (o :: rest) a W :=
  app_seg base s x t e z bytes hgd ho ht hinfo hz hb0 v xs.length (xs.map f) A m c (ys.map f) hs hx (by rw [List.length_map, hm]) hS
    (fun u hu => by obtain ⟨y, _, rfl⟩ := List.mem_map.1 hu; exact h1 y) HO HB hbase (by rw [hm]; exact hl) fun v1 w1 hown hb hsz =>
    h v1 w1 (Own.of (n := xs.length + m) (by rw [List.map_append]; exact hown) (by simp [hm])) hb hsz
end
theorem fu8_one (b : UInt8) : (fu8 b).oneCell' = true := rfl
theorem fint_one (b : Int) : (fint b).oneCell' = true := rfl
theorem fstr_one (b : ByteArray) : (fstr b).oneCell' = true := rfl

/-! Arrays and structs as whole values -/
section
variable {P : Program} {ops : Array Oper} {rest : List Oper} {o : Oper} {a : Act} {Q : Exit → Act → World → Prop}
theorem run_load_agg (W : World) (ty : TypeId) (ad : Addr) (cs : List Value) (d : TypeDesc) (hu : P.underlying ty = some d) (hd : (match d with | .struct _ | .array _ _ => true | _ => false) = true)
    (hi : (P.info? ty).map (·.size) = some cs.length) (hS : Seg W (some ad) cs) : (Instr.loadAt ty (.pointer (some ad))).run P W = .ok (.agg cs.toArray) W := by
  have hl := run_loadCells_list (P := P) W ad cs (fun j v hv => hS.cell hv)
  cases hq : P.info? ty with
  | none => simp [hq] at hi
  | some i =>
    have hs : i.size = cs.length := by simpa [hq] using hi
    have hagg : (isAgg ty).run P W = .ok true W := by
      unfold isAgg
      rw [Sem.run_bind, run_underlying hu W]
      cases d <;> simp_all
    simp [Instr.loadAt, Instr.sureAddr, loadVar, Sem.run_bind, hagg, sizeOf, typeInfo, hq, hs, hl]
/-- A whole array or struct is loaded. -/
theorem op_load_agg {W : World} {ad : Addr} {cs : List Value} (hS : Seg W (some ad) cs) (x : Operand) (ty : TypeId) (d : TypeDesc) (hgd : o.guard = none) (ho : o.op = .load ty x) (hu : P.underlying ty = some d) (hd : (match d with | .struct _ | .array _ _ => true | _ => false) = true)
    (hi : (P.info? ty).map (·.size) = some cs.length) (hx : a.eval x = .pointer (some ad)) (h : wpList P ops Q rest (a.put o.dst (.agg cs.toArray)) W) : wpList P ops Q (o :: rest) a W := by
  refine wpList_plain hgd fun K hK => ?_
  unfold Oper.wp execOp
  simp only [ho, hx, Sem.run_bind, run_load_agg W ty ad cs d hu hd hi hS, Result.andThen_ok]
  exact hK _ _ h
/-- A whole array or struct is stored into the block that was made last. -/
theorem op_store_new {W : World} {n : Nat} (c c' : Array Value) (x y : Operand) (ty : TypeId) (hgd : o.guard = none) (ho : o.op = .store ty x y) (hx : a.eval x = .pointer (some ⟨W.heap.size, 0, none⟩)) (hy : a.eval y = .agg c')
    (hi : (P.info? ty).map (·.size) = some n) (hc : c.size = n) (hc' : c'.size = n) (h1 : c'.all (·.oneCell') = true) (h : wpList P ops Q rest (a.put o.dst undef) (W.alloc (.cells c' ty))) : wpList P ops Q (o :: rest) a (W.alloc (.cells c ty)) := by
  refine wpList_plain hgd fun K hK => ?_
  subst hc'
  unfold Oper.wp execOp
  simp only [ho, hx, hy, Sem.run_bind, run_storeAt_new W ty c c' hi hc h1, Result.andThen_ok]
  exact hK _ _ h
end
theorem seg_new (w : World) (cs : List Value) (t : TypeId) : Seg (w.alloc (.cells cs.toArray t)) (some ⟨w.heap.size, 0, none⟩) cs := fun j u hu =>
  ⟨_, rfl, World.news_of_block (heap_alloc_new w _) j u (by simpa using hu)⟩
theorem all_fu8 (l : List UInt8) : ((l.map fu8).toArray).all (·.oneCell') = true := by simp [fu8_one]
/-- A row of arrays: the cells of the k-th. -/
theorem flat_get {α : Type} (n : Nat) : ∀ (l : List (List α)) (k j : Nat) (d : List α) (x : α), (∀ e ∈ l, e.length = n) → l[k]? = some d → d[j]? = some x → l.flatten[k * n + j]? = some x
  | [], k, j, d, x, _, h, _ => by simp at h
  | e :: l, 0, j, d, x, hl, h, hx => by
    simp only [List.getElem?_cons_zero, Option.some.injEq] at h
    subst h
    rw [Nat.zero_mul, Nat.zero_add, List.flatten_cons, List.getElem?_append_left (List.getElem?_eq_some_iff.1 hx).1]
    exact hx
  | e :: l, k + 1, j, d, x, hl, h, hx => by
    have he := hl e (List.mem_cons_self ..)
    rw [List.flatten_cons, List.getElem?_append_right (by rw [he, Nat.succ_mul]; omega), he, show (k + 1) * n + j - n = k * n + j by rw [Nat.succ_mul]; omega]
    exact flat_get n l k j d x (fun e' h' => hl e' (List.mem_cons_of_mem _ h')) (by simpa using h) hx
theorem Seg.row {w : World} {α : Type} {f : α → Value} {ad : Addr} {l : List (List α)} (n : Nat) (hl : ∀ e ∈ l, e.length = n) (h : Seg w (some ad) (l.flatten.map f)) (k : Nat) (d : List α) (hk : l[k]? = some d) : Seg w (some (ad.add (k * n))) (d.map f) := fun j u hu => by
  rw [List.getElem?_map, Option.map_eq_some_iff] at hu
  obtain ⟨x, hx, rfl⟩ := hu
  refine ⟨_, rfl, ?_⟩
  rw [add_add]
  exact h.cell (by rw [List.getElem?_map, flat_get n l k j d x hl hk hx]; rfl)
theorem flat_len {α : Type} (n : Nat) (l : List (List α)) (hl : ∀ e ∈ l, e.length = n) : l.flatten.length = l.length * n := by
  induction l with
  | nil => simp
  | cons e l ih =>
    rw [List.flatten_cons, List.length_append, hl e (List.mem_cons_self ..), ih (fun e' h' => hl e' (List.mem_cons_of_mem _ h')), List.length_cons, Nat.succ_mul]
    omega
theorem Seg.row_some {w : World} {α : Type} {f : α → Value} {A : Option Addr} {l : List (List α)} (n : Nat) (hn : 0 < n) (hl : ∀ e ∈ l, e.length = n) (h : Seg w A (l.flatten.map f)) (k : Nat) (d : List α) (hk : l[k]? = some d) : ∃ ad, A = some ad ∧ Seg w (some (ad.add (k * n))) (d.map f) := by
  have hd := hl d (List.mem_of_getElem? hk)
  have h0 : d[0]? = some d[0] := List.getElem?_eq_getElem (by omega)
  obtain ⟨ad, rfl, _⟩ := h (k * n + 0) (f d[0]) (by rw [List.getElem?_map, flat_get n l k 0 d _ hl hk h0]; rfl)
  exact ⟨ad, rfl, h.row n hl k d hk⟩
end Go.Proofs.Ytdmindmelaemjaa
