/- Words on memory, the fourth part: s[:n:n], and append to what is full. -/
import Derived.Test.YtdmindmelaemjaaMemC
namespace Go.Proofs.Ytdmindmelaemjaa
open Go.RowKit
set_option autoImplicit false
set_option linter.unusedSimpArgs false
set_option linter.unusedVariables false
section
variable {P : Program} {ops : Array Oper} {rest : List Oper} {o : Oper} {a : Act} {Q : Exit → Act → World → Prop} {α : Type} {f : α → Value}
theorem run_clip {t e : TypeId} {s : Nat} (ht : P.underlying t = some (.slice e)) (hi : (P.info? e).map (·.size) = some s) (W : World) (A : Option Addr) (n c : Nat) (hc : n ≤ c) :
    (Instr.sliceAt t (.slice A n c) none (some (.int .i64 (n : Int))) (some (.int .i64 (n : Int)))).run P W = .ok (.slice (if n = 0 then A else A.map (·.add (0 * s))) (n - 0) (n - 0)) W := by
  have hz : (sizeOf e).run P W = .ok s W := by
    cases hq : P.info? e with
    | none => simp [hq] at hi
    | some i => simp [hq] at hi; simp [sizeOf, typeInfo, hq, hi]
  have hc' : (n : Int) ≤ (c : Int) := by omega
  simp [Instr.sliceAt, Instr.slice, run_underlying ht, Instr.sliceBounds, run_sliceBound, hz, hc', Int.natCast_nonneg]
theorem op_clip {W : World} {A : Option Addr} {xs : List α} (hS : Seg W A (xs.map f)) (t e : TypeId) (n c : Nat) (x hi mx : Operand) (hgd : o.guard = none) (ho : o.op = .slice t x none (some hi) (some mx)) (ht : P.underlying t = some (.slice e)) (hi1 : (P.info? e).map (·.size) = some 1)
    (hx : a.eval x = .slice A n c) (hhi : a.eval hi = .int .i64 (n : Int)) (hmx : a.eval mx = .int .i64 (n : Int)) (hc : n ≤ c)
    (h : ∀ A', Seg W A' (xs.map f) → wpList P ops Q rest (a.put o.dst (.slice A' n n)) W) : wpList P ops Q (o :: rest) a W := by
  have hr := run_clip (P := P) ht hi1 W A n c hc
  refine wpList_plain hgd fun K hK => ?_
  unfold Oper.wp execOp
  simp only [ho, hx, Option.map_none, Option.map_some, hhi, hmx, Sem.run_bind, hr, Result.andThen_ok]
  refine hK _ _ (h _ ?_)
  rw [Nat.zero_mul]
  by_cases hn : n = 0
  · rw [if_pos hn]; exact hS
  · rw [if_neg hn]
    intro j u hu
    obtain ⟨ad, rfl, hcell⟩ := hS j u hu
    exact ⟨ad.add 0, rfl, by rw [add_add, Nat.zero_add]; exact hcell⟩
/-- append to a slice without spare room: what comes back holds both. -/
theorem app_full {W : World} {A B : Option Addr} {xs ys : List α} {n m c : Nat} (hS : Seg W A (xs.map f)) (hn : n = xs.length) (hT : Seg W B (ys.map f)) (hm : m = ys.length) (s x : Operand) (t e : TypeId) (z : Value) (bytes : Nat) (hgd : o.guard = none)
    (ho : o.op = .call { callee := .builtin .append, args := #[s, x], argTypes := #[t, t] })
    (ht : P.underlying t = some (.slice e)) (hinfo : (P.info? e).map (fun i => (i.zero, i.size, i.bytes)) = some (some z, 1, bytes)) (hz : z.cells.size = 1) (hb0 : 0 < bytes)
    (hs : a.eval s = .slice A n n) (hx : a.eval x = .slice B m c) (hl : (n + m) * bytes ≤ 140737488355328)
    (h : ∀ A' c' w1, n + m ≤ c' → Seg w1 A' ((xs ++ ys).map f) → Below W.heap.size W w1 → wpList P ops Q rest (a.put o.dst (.slice A' (n + m) c')) w1) :
    wpList P ops Q (o :: rest) a W := by
  obtain ⟨i0, hi, hzz⟩ := Option.map_eq_some_iff.1 hinfo
  simp only [Prod.mk.injEq] at hzz
  obtain ⟨hz0, hz1, hz2⟩ := hzz
  have hlen : n + m ≤ 140737488355328 := Nat.le_trans (Nat.le_mul_of_pos_right _ hb0) hl
  have key : ∃ A' c' w1, (Builtin.append_ #[t, t] o.type #[.slice A n n, .slice B m c]).run P W = .ok (.slice A' (n + m) c') w1 ∧ n + m ≤ c' ∧ Seg w1 A' ((xs ++ ys).map f) ∧ Below W.heap.size W w1 := by
    have hfresh : ∀ old, Seg (W.drew.alloc (.cells ((xs.map f).toArray ++ (ys.map f).toArray ++ Builtin.zeroCells z.cells (grownCap W (n + m) old e - (n + m))) e)) (some ⟨W.heap.size, 0, none⟩) ((xs ++ ys).map f) ∧
        Below W.heap.size W (W.drew.alloc (.cells ((xs.map f).toArray ++ (ys.map f).toArray ++ Builtin.zeroCells z.cells (grownCap W (n + m) old e - (n + m))) e)) := by
      intro old
      refine ⟨fun j u hu => ⟨_, rfl, ?_⟩, ((Below.refl _ _).drew).alloc (Nat.le_refl _) _⟩
      have hnb := World.news_of_block (heap_alloc_new W.drew (.cells ((xs.map f).toArray ++ (ys.map f).toArray ++ Builtin.zeroCells z.cells (grownCap W (n + m) old e - (n + m))) e))
      refine hnb j u ?_
      have hj := (List.getElem?_eq_some_iff.1 hu).1
      rw [Array.toList_append, Array.toList_append, List.getElem?_append_left (by simpa using hj)]
      simpa using hu
    by_cases hm0 : m = 0
    · have hy : ys = [] := List.eq_nil_of_length_eq_zero (by omega)
      subst hy
      subst hm0
      refine ⟨A, n, W, ?_, Nat.le_refl _, by simpa using hS, Below.refl _ _⟩
      rcases B with _ | bd <;> rcases A with _ | ad <;> simp [Builtin.append_, run_underlying ht, sizeOf, typeInfo, hi, Builtin.lenOf, Builtin.firstCells, storeCells, loadCells, loadCellsFrom]
      all_goals
        have hx0 : xs = [] := by
          rcases xs with _ | ⟨x, xs⟩
          · rfl
          · obtain ⟨_, e', _⟩ := hS 0 (f x) rfl
            cases e'
        rw [hx0] at hn
        simp at hn
        simp [hn]
    · obtain ⟨bd, rfl⟩ := seg_some hT (by omega)
      by_cases hn0 : n = 0
      · have hx0 : xs = [] := List.eq_nil_of_length_eq_zero (by omega)
        subst hx0
        subst hn0
        have hr := run_append_nil (P := P) W t o.type e i0 z ht hi hz0 bd m c (ys.map f) (by rw [List.length_map, hz1]; omega) (fun j v hv => hT.cell hv) (by omega) (by omega) (by rw [hz2]; rw [Nat.zero_add] at hl; omega)
        have h0 := hfresh 0
        rw [Nat.zero_add] at h0
        rcases A with _ | ad
        · exact ⟨_, _, _, by rw [hr, Nat.zero_add], by rw [Nat.zero_add]; exact grownCap_ge _ _ _ _, by simpa using h0.1, by simpa using h0.2⟩
        · have hr2 := run_append_grow (P := P) W t o.type e i0 z ht hi hz0 ad 0 0 [] (by simp) (fun j v hv => by simp at hv) bd m c (ys.map f) (by rw [List.length_map, hz1]; omega) (fun j v hv => hT.cell hv) (by omega) (by omega) (by rw [hz2]; exact growslice_fits (by omega) (by omega))
          exact ⟨_, _, _, hr2, grownCap_ge _ _ _ _, by simpa using (hfresh 0).1, by simpa using (hfresh 0).2⟩
      · obtain ⟨ad, rfl⟩ := seg_some hS (by omega)
        have hr := run_append_grow (P := P) W t o.type e i0 z ht hi hz0 ad n n (xs.map f) (by rw [List.length_map, hz1]; omega) (fun j v hv => hS.cell hv) bd m c (ys.map f) (by rw [List.length_map, hz1]; omega) (fun j v hv => hT.cell hv) (by omega) (by omega) (by rw [hz2]; exact growslice_fits (by omega) (by omega))
        exact ⟨_, _, _, hr, grownCap_ge _ _ _ _, (hfresh n).1, (hfresh n).2⟩
  obtain ⟨A', c', w1, hr, h1, h2, h3⟩ := key
  refine wpList_plain hgd fun K hK => ?_
  unfold Oper.wp execOp
  simp only [ho, resolve, invoke, builtin, Sem.run_bind, Sem.run_pure, Result.andThen_ok, List.map_toArray, List.map_cons, List.map_nil, hs, hx, hr]
  exact hK _ _ (h A' c' w1 h1 h2 h3)
end
end Go.Proofs.Ytdmindmelaemjaa
