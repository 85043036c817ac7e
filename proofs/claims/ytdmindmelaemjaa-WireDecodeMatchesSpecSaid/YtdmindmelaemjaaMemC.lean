/- Words on memory, the third part: literals with parts that are arrays or structs; rows of elements of several cells. -/
import Derived.Test.YtdmindmelaemjaaMemB
namespace Go.Proofs.Ytdmindmelaemjaa
open Go.RowKit
set_option autoImplicit false
set_option linter.unusedSimpArgs false
set_option linter.unusedVariables false

theorem fill_list (off : Nat) : ∀ (l : List Value) (k : Nat) (acc : Array Value), off + k + l.length ≤ acc.size →
    (l.zipIdx k).foldl (fun cs (x : Value × Nat) => cs.setIfInBounds (off + x.2) x.1) acc = (acc.toList.take (off + k) ++ l ++ acc.toList.drop (off + k + l.length)).toArray
  | [], k, acc, h => by simp
  | v :: l, k, acc, h => by
    rw [List.length_cons] at h
    rw [List.zipIdx_cons, List.foldl_cons, fill_list off l (k + 1) _ (by simp; omega)]
    simp only [Array.toList_setIfInBounds, List.length_cons]
    congr 1
    have h1 : off + k < acc.toList.length := by rw [Array.length_toList]; omega
    rw [show off + (k + 1) = off + k + 1 by omega, List.take_add_one, List.take_set_of_le (Nat.le_refl _), List.getElem?_set_self h1, Option.toList, List.drop_set_of_lt (by omega), show off + k + 1 + l.length = off + k + (l.length + 1) by omega]
    simp
theorem fill_one (off : Nat) (vs acc : Array Value) (h : off + vs.size ≤ acc.size) :
    vs.zipIdx.foldl (fun cs (x : Value × Nat) => cs.setIfInBounds (off + x.2) x.1) acc = (acc.toList.take off ++ vs.toList ++ acc.toList.drop (off + vs.size)).toArray := by
  rw [← Array.foldl_toList, Array.toList_zipIdx]
  have := fill_list off vs.toList 0 acc (by simpa using h)
  simpa using this
theorem fill_whole (Z cs : Array Value) (s : Nat) (hZ : Z.size = s) (hc : cs.size = s) : Instr.fill (fun i => some (i * s, s)) Z [(0, .agg cs)] = some cs := by
  have h2 : Z.toList.drop cs.size = [] := List.drop_of_length_le (by rw [Array.length_toList]; omega)
  have h3 := fill_one 0 cs Z (by omega)
  rw [Nat.zero_add, h2] at h3
  simp only [Instr.fill, Value.cells, hc, hZ, Nat.zero_mul]
  rw [if_neg (by simp), h3]
  simp
section
variable {P : Program} {ops : Array Oper} {rest : List Oper} {o : Oper} {a : Act} {Q : Exit → Act → World → Prop}
/-- '[]T{x}', x an array or a struct. -/
theorem run_build1 {t e : TypeId} {z : Value} {s : Nat} {y : Nat} (W : World) (cs : Array Value) (ht : P.underlying t = some (.slice e)) (hi : (P.info? e).map (fun i => (i.zero, i.size, i.bytes)) = some (some z, s, y)) (hz : z.cells.size = s) (hs0 : 0 < s) (hs : s ≤ 16777216) (hc : cs.size = s) :
    (Instr.buildSlice t 1 #[(0, .agg cs)]).run P W = .ok (.slice (some ⟨W.heap.size, 0, none⟩) 1 1) (W.alloc (.cells cs e)) := by
  obtain ⟨i, hq, hzz⟩ := Option.map_eq_some_iff.1 hi
  simp only [Prod.mk.injEq] at hzz
  obtain ⟨hz0, hz1, hz2⟩ := hzz
  have hf := fill_whole ((Array.range (1 * s)).map (z.cells[· % z.cells.size]!)) cs s (by simp) hc
  have hn : ¬ (1 * s > 2 ^ 24) := by simp; omega
  have hn0 : ¬ (1 * s = 0) := by omega
  have hzs : (sizeOf e).run P W = .ok s W := by simp [sizeOf, typeInfo, hq, hz1]
  have hzv : (zeroValue e).run P W = .ok z W := by simp [zeroValue, typeInfo, hq, hz0]
  simp only [Instr.buildSlice, Sem.run_bind, run_underlying ht, Result.andThen_ok, hzs, if_neg hn, if_neg hn0, hzv, Sem.run_pure]
  rw [hf]
  simp [newRow]
theorem op_build1 {W : World} {cs : Array Value} {z : Value} {s y : Nat} (x : Operand) (t e : TypeId) (hgd : o.guard = none) (ho : o.op = .buildSlice t 1 #[(0, x)]) (hx : a.eval x = .agg cs)
    (ht : P.underlying t = some (.slice e)) (hi : (P.info? e).map (fun i => (i.zero, i.size, i.bytes)) = some (some z, s, y)) (hz : z.cells.size = s) (hs0 : 0 < s) (hs : s ≤ 16777216) (hc : cs.size = s)
    (h : wpList P ops Q rest (a.put o.dst (.slice (some ⟨W.heap.size, 0, none⟩) 1 1)) (W.alloc (.cells cs e))) : wpList P ops Q (o :: rest) a W := by
  have hr := run_build1 (P := P) W cs ht hi hz hs0 hs hc
  refine wpList_plain hgd fun K hK => ?_
  unfold Oper.wp execOp
  simp only [ho, List.map_toArray, List.map_cons, List.map_nil, hx, Sem.run_bind, hr, Result.andThen_ok]
  exact hK _ _ h
/-- '(*[n]T)(x)': the slice is long enough. -/
theorem op_toarr {W : World} {A : Option Addr} {m c n : Nat} {e : TypeId} (x : Operand) (t : TypeId) (hgd : o.guard = none) (ho : o.op = .sliceToArrayPointer t x) (ht : P.underlying t = some (.array n e)) (hx : a.eval x = .slice A m c) (hn : n ≤ m)
    (h : wpList P ops Q rest (a.put o.dst (.pointer A)) W) : wpList P ops Q (o :: rest) a W := by
  refine wpList_plain hgd fun K hK => ?_
  have hr : (Instr.arrayAt t (.slice A m c)).run P W = .ok (.pointer A) W := by
    simp only [Instr.arrayAt, Sem.run_bind, run_underlying ht, Result.andThen_ok]
    rw [if_neg (by omega)]
    rfl
  unfold Oper.wp execOp
  simp only [ho, hx, Sem.run_bind, hr, Result.andThen_ok]
  exact hK _ _ h
/-- append(v, x), x one element of s cells, which lies in the block that was made last. -/
theorem app_row {w0 W : World} (base : Nat) (sl x : Operand) (t e : TypeId) (z : Value) (s bytes : Nat) (hgd : o.guard = none)
    (ho : o.op = .call { callee := .builtin .append, args := #[sl, x], argTypes := #[t, t] })
    (ht : P.underlying t = some (.slice e)) (hinfo : (P.info? e).map (fun i => (i.zero, i.size, i.bytes)) = some (some z, s, bytes)) (hz : z.cells.size = s) (hs0 : 0 < s) (hb0 : 0 < bytes)
    (v : Value) (n : Nat) (xs : List Value) (cs : Array Value) (hs : a.eval sl = v) (hx : a.eval x = .slice (some ⟨W.heap.size, 0, none⟩) 1 1) (hc : cs.size = s) (h1 : ∀ u ∈ cs.toList, u.oneCell' = true)
    (HO : W.ownsRow base e s v n xs) (HB : Below base w0 W) (hbase : base ≤ W.heap.size) (hl : (n + 1) * bytes ≤ 140737488355328)
    (h : ∀ v1 w1, w1.ownsRow base e s v1 (n + 1) (xs ++ cs.toList) → Below base w0 w1 → W.heap.size ≤ w1.heap.size → wpList P ops Q rest (a.put o.dst v1) w1) :
    wpList P ops Q (o :: rest) a (W.alloc (.cells cs e)) := by
  obtain ⟨i0, hi, hzz⟩ := Option.map_eq_some_iff.1 hinfo
  simp only [Prod.mk.injEq] at hzz
  obtain ⟨hz0, hz1, hz2⟩ := hzz
  have hlen : n + 1 ≤ 140737488355328 := Nat.le_trans (Nat.le_mul_of_pos_right _ hb0) hl
  refine wpList_append_own_at (W.alloc (.cells cs e)) hgd sl x t ho base e i0 z s bytes ht hi hz0 hz1 hz2 hz hs0 v n xs hs (HO.alloc _) ⟨W.heap.size, 0, none⟩ 1 1 cs.toList hx (by rw [Array.length_toList, hc, Nat.one_mul])
    (World.news_of_block (cs := cs) (t := e) (fr := (0, 0)) (heap_alloc_new W _)) h1 (by simp only [maxLen]; omega) hl (by simp; omega) ?_
  intro v1 w1 hown hg _ _
  exact h v1 w1 hown ((HB.alloc hbase _).grown hg (by simp; omega) (fun k hk => (HO.lt k hk).1)) (Nat.le_trans (by simp) hg.size)
end
theorem seg_some {w : World} {α : Type} {f : α → Value} {A : Option Addr} {l : List α} (h : Seg w A (l.map f)) (hl : 0 < l.length) : ∃ ad, A = some ad := by
  obtain ⟨ad, e, _⟩ := h 0 (f l[0]) (by rw [List.getElem?_map, List.getElem?_eq_getElem hl]; rfl)
  exact ⟨ad, e⟩
end Go.Proofs.Ytdmindmelaemjaa
