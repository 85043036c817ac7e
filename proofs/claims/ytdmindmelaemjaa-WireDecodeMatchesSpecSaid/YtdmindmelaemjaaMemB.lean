/- Words on memory, more of them: cuts of a slice that is read. -/
import Derived.Test.YtdmindmelaemjaaMem
import Derived.Laws.Slices
import Derived.Deep.Quiet
import Derived.Laws.StructEq
import Derived.ChangeKeysEq
namespace Go.Proofs.Ytdmindmelaemjaa
open Go.RowKit
set_option autoImplicit false
set_option linter.unusedSimpArgs false
set_option linter.unusedVariables false
section
variable {P : Program} {ops : Array Oper} {rest : List Oper} {o : Oper} {a : Act} {Q : Exit → Act → World → Prop}
theorem run_cut {t e : TypeId} {s : Nat} (ht : P.underlying t = some (.slice e)) (hi : (P.info? e).map (·.size) = some s) (W : World) (A : Option Addr) (n c L H : Nat) (lo hi' : Option Value)
    (hlo : lo = some (.int .i64 (L : Int)) ∨ lo = none ∧ L = 0) (hhi : hi' = some (.int .i64 (H : Int)) ∨ hi' = none ∧ H = n) (hLH : L ≤ H) (hH : H ≤ c) :
    (Instr.sliceAt t (.slice A n c) lo hi' none).run P W = .ok (.slice (if c = L then A else A.map (·.add (L * s))) (H - L) (c - L)) W := by
  have hz : (sizeOf e).run P W = .ok s W := by
    cases hq : P.info? e with
    | none => simp [hq] at hi
    | some i => simp [hq] at hi; simp [sizeOf, typeInfo, hq, hi]
  have hH' : (H : Int) ≤ (c : Int) := by omega
  have hL' : (L : Int) ≤ (H : Int) := by omega
  have hLc : (L : Int) ≤ (c : Int) := by omega
  rcases hlo with rfl | ⟨rfl, rfl⟩ <;> rcases hhi with rfl | ⟨rfl, rfl⟩ <;>
    simp [Instr.sliceAt, Instr.slice, run_underlying ht, Instr.sliceBounds, run_sliceBound, hz, hH', hL', hLc, Int.natCast_nonneg]
/-- x[lo:hi], x[lo:], x[:hi] of a slice that is read: one cell an element. -/
theorem op_cut {W : World} {α : Type} {f : α → Value} {A : Option Addr} {xs : List α} (L H : Nat) (hS : Seg W A (xs.map f)) (t e : TypeId) (n c : Nat) (x : Operand) (lo hi : Option Operand) (hgd : o.guard = none)
    (ho : o.op = .slice t x lo hi none) (ht : P.underlying t = some (.slice e)) (hi1 : (P.info? e).map (·.size) = some 1) (hx : a.eval x = .slice A n c) (hn : n = xs.length) (hc : n ≤ c)
    (hlo : lo.map a.eval = some (.int .i64 (L : Int)) ∨ lo.map a.eval = none ∧ L = 0) (hhi : hi.map a.eval = some (.int .i64 (H : Int)) ∨ hi.map a.eval = none ∧ H = n) (hLH : L ≤ H) (hH : H ≤ n)
    (h : ∀ A', Seg W A' (((xs.drop L).take (H - L)).map f) → wpList P ops Q rest (a.put o.dst (.slice A' (H - L) (c - L))) W) : wpList P ops Q (o :: rest) a W := by
  have hr := run_cut (P := P) ht hi1 W A n c L H _ _ hlo hhi hLH (by omega)
  refine wpList_plain hgd fun K hK => ?_
  unfold Oper.wp execOp
  simp only [ho, hx, Sem.run_bind, Option.map_none, hr, Result.andThen_ok]
  refine hK _ _ (h _ ?_)
  rw [List.map_take, List.map_drop, Nat.mul_one]
  exact (hS.cut L c (by rw [List.length_map, ← hn]; exact hc)).take _
end

/-! '==' of arrays of bytes -/
section
variable {P : Program} {e : TypeId} {i : TypeInfo}
theorem run_part8 (he : P.underlying e = some (.int .u8)) (w : World) (xs : List UInt8) (j : Nat) (x : UInt8) (h : xs[j]? = some x) : (part e (xs.map fu8).toArray j).run P w = .ok (fu8 x) w := by
  have hagg : (isAgg e).run P w = .ok false w := by
    unfold isAgg
    rw [Sem.run_bind, run_underlying he w]
    rfl
  have hg : ((xs.map fu8).toArray)[j]? = some (fu8 x) := by simpa using ⟨x, h, rfl⟩
  simp only [part, Sem.run_bind, hagg, Result.andThen_ok, Bool.false_eq_true, if_false, hg, Sem.run_pure]
theorem run_items8 (he : P.underlying e = some (.int .u8)) (d : Nat) (w : World) (xs ys : List UInt8) : ∀ is : List Nat, (∀ j ∈ is, j < xs.length ∧ j < ys.length) →
    (Op.eqItems (d + 1) e 1 (xs.map fu8).toArray (ys.map fu8).toArray is).run P w = .ok (decide (∀ j ∈ is, xs[j]? = ys[j]?)) w
  | [], _ => by simp [Op.eqItems]
  | j :: is, h => by
    obtain ⟨h1, h2⟩ := h j (List.mem_cons_self ..)
    have g1 : xs[j]? = some xs[j] := List.getElem?_eq_getElem h1
    have g2 : ys[j]? = some ys[j] := List.getElem?_eq_getElem h2
    have ih := run_items8 he d w xs ys is (fun q hq => h q (List.mem_cons_of_mem _ hq))
    simp only [Op.eqItems, Nat.mul_one, Sem.run_bind, run_part8 he w xs j _ g1, run_part8 he w ys j _ g2, Result.andThen_ok, fu8, run_equalIn_int w d e .u8 .u8 _ _ he]
    by_cases hxy : xs[j] = ys[j]
    · have hb : (((xs[j].toNat : Int)) == (ys[j].toNat : Int)) = true := by rw [hxy]; simp
      simp only [hb, Bool.not_true, Bool.false_eq_true, if_false, ih]
      congr 1
      simp [g1, g2, hxy]
    · have hb : (((xs[j].toNat : Int)) == (ys[j].toNat : Int)) = false := by
        rw [beq_eq_false_iff_ne]
        intro hh
        exact hxy (UInt8.toNat_inj.1 (by omega))
      simp only [hb, Bool.not_false, if_true, Sem.run_pure]
      congr 1
      simp [g1, g2, hxy]
/-- Arrays of n bytes. -/
theorem run_eq8 {t : TypeId} {n : Nat} (hu : P.underlying t = some (.array n e)) (hi : P.info? e = some i) (hs : i.size = 1) (he : P.underlying e = some (.int .u8)) (d : Nat) (w : World) (xs ys : List UInt8) (hx : xs.length = n) (hy : ys.length = n) :
    (Op.equalIn (d + 2) t (.agg (xs.map fu8).toArray) (.agg (ys.map fu8).toArray)).run P w = .ok (decide (xs = ys)) w := by
  have hc : P.cellsOf e = 1 := by simp [Program.cellsOf, hi, hs]
  rw [run_equalIn_array w (d + 1) _ _ hu hi, hc, run_items8 he d w xs ys _ (fun j hj => by rw [List.mem_range] at hj; omega)]
  congr 1
  rw [decide_eq_decide]
  constructor
  · intro h
    apply List.ext_getElem?
    intro j
    by_cases hj : j < n
    · exact h j (List.mem_range.2 hj)
    · rw [List.getElem?_eq_none (by omega), List.getElem?_eq_none (by omega)]
  · intro h j _
    rw [h]
end
section
variable {P : Program} {ops : Array Oper} {C : World → Prop} {Q : Act → Prop} {a : Act} {o : Oper} {rest : List Oper}
/-- In a region that draws its order: a whole array or struct is loaded. -/
theorem q_load_agg {ad : Addr} {cs : List Value} (hS : ∀ W, C W → Seg W (some ad) cs) (x : Operand) (ty : TypeId) (d : TypeDesc) (hgd : o.guard = none) (ho : o.op = .load ty x) (hu : P.underlying ty = some d) (hd : (match d with | .struct _ | .array _ _ => true | _ => false) = true)
    (hi : (P.info? ty).map (·.size) = some cs.length) (hx : a.eval x = .pointer (some ad)) (h : wpQuiet P ops C Q rest (a.put o.dst (.agg cs.toArray))) : wpQuiet P ops C Q (o :: rest) a := by
  refine wpQuiet_step fun K hK => ?_
  rw [if_pos (by simp [Region.wanted, hgd])]
  refine ⟨_, fun W hW => ?_, hK _ h⟩
  unfold Oper.quietAt execOp
  simp only [ho, hx, Sem.run_bind, run_load_agg W ty ad cs d hu hd hi (hS W hW), Result.andThen_ok]
  exact ⟨rfl, rfl⟩
end

/-! 'string(b)', b read -/
section
variable {P : Program} {ops : Array Oper} {rest : List Oper} {o : Oper} {a : Act} {Q : Exit → Act → World → Prop}
theorem run_str {W : World} (src dst e : TypeId) {A : Option Addr} {n c : Nat} {xs : List UInt8} (hs : P.underlying src = some (.slice e)) (he : P.underlying e = some (.int .u8)) (hd : P.underlying dst = some .string)
    (hS : Seg W A (xs.map fu8)) (hn : xs.length = n) : (convert src dst (.slice A n c)).run P W = .ok (.string ⟨xs.toArray⟩) W := by
  subst hn
  rcases A with _ | ad
  · have h0 : xs = [] := by
      rcases xs with _ | ⟨x, xs⟩
      · rfl
      · obtain ⟨_, e', _⟩ := hS 0 (fu8 x) rfl
        cases e'
    subst h0
    exact run_convert_bytes_nil W src e hs he _ _ dst hd
  · have hl : (loadCells ad xs.length).run P W = .ok ((xs.map fun b => (b.toNat : Int)).map (Value.int .u8)).toArray W := by
      have := run_loadCells_list (P := P) W ad (xs.map fu8) (fun j v hv => hS.cell hv)
      rw [List.length_map] at this
      rw [this, List.map_map]
      rfl
    rw [run_convert_bytes_string W src dst e _ _ _ hs he hd, run_bytesToString W _ xs.length c _ hl, foldl_push_bytes]
    simp [ByteArray.empty, ByteArray.emptyWithCapacity, Function.comp_def]
    rfl
theorem op_str {W : World} {A : Option Addr} {n c : Nat} {xs : List UInt8} (hS : Seg W A (xs.map fu8)) (hn : xs.length = n) (x : Operand) (src dst e : TypeId) (hgd : o.guard = none) (ho : o.op = .convert src dst x)
    (hs : P.underlying src = some (.slice e)) (he : P.underlying e = some (.int .u8)) (hd : P.underlying dst = some .string) (hx : a.eval x = .slice A n c)
    (h : wpList P ops Q rest (a.put o.dst (.string ⟨xs.toArray⟩)) W) : wpList P ops Q (o :: rest) a W := by
  have hr := run_str (P := P) (W := W) (c := c) src dst e hs he hd hS hn
  refine wpList_plain hgd fun K hK => ?_
  unfold Oper.wp execOp
  simp only [ho, hx, Sem.run_bind, hr, Result.andThen_ok]
  exact hK _ _ h
end

/-! New blocks of one cell -/
theorem new_cell (w : World) (x : Value) (t : TypeId) : (w.alloc (.cells #[x] t)).cell? ⟨w.heap.size, 0, none⟩ = some x := by
  unfold World.cell?
  rw [heap_alloc_new]
  rfl
theorem new_free (w : World) (x : Value) (t : TypeId) : (w.alloc (.cells #[x] t)).frozen? ⟨w.heap.size, 0, none⟩ = false := by
  unfold World.frozen?
  rw [heap_alloc_new]
  rfl
theorem alloc_below (w : World) (o : Obj) : Below w.heap.size w (w.alloc o) := (Below.refl _ _).alloc (Nat.le_refl _) o
theorem alloc_size (w : World) (o : Obj) : (w.alloc o).heap.size = w.heap.size + 1 := by simp
theorem cell_lt {w : World} {a : Addr} {v : Value} (h : w.cell? a = some v) : a.block < w.heap.size := World.block_lt_of_cell? w a h
theorem cell_below {w w1 : World} {a : Addr} {v : Value} (h : w.cell? a = some v) (hb : Below w.heap.size w w1) : w1.cell? a = some v := (hb.cell (cell_lt h)).trans h
theorem Own.heap {α : Type} {f : α → Value} {e : TypeId} {w w1 : World} {base : Nat} {v : Value} {xs : List α} (h : Own f e w base v xs) (he : w1.heap = w.heap) : Own f e w1 base v xs := by
  refine ⟨h.1, ?_⟩
  rw [he]
  exact h.2
theorem Own.set {α : Type} {f : α → Value} {e : TypeId} {w : World} {base : Nat} {v : Value} {xs : List α} (h : Own f e w base v xs) {a : Addr} (ha : a.block < base) (u : Value) : Own f e (w.setCell a u) base v xs := ownsRow_setCell_below h ha u
end Go.Proofs.Ytdmindmelaemjaa
