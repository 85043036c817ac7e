/- How the arguments of a law read: a slice that came in, in the words of Mem. -/
import Derived.Test.YtdmindmelaemjaaRows
import Derived.Test.YtdmindmelaemjaaWGetD
import Derived.WalkKit
import Derived.ProofKit
import Derived.OpenShut
import Derived.ShutString
import Derived.ChangeOld
import Derived.SizedLaws
import Derived.SliceStrings
import Derived.Deep.Slices
import Derived.JoinedCond
namespace Go.Proofs.Ytdmindmelaemjaa
open Go.ChangeShapes Go.WideShapes Go.ChangeAt Go.RowKit
set_option linter.unusedVariables false

theorem law_own : ownKnob Try.prog.godebug = none := by kernel_rfl
theorem law_laidOut : laidOutB Try.prog = true := by kernel_rfl

section
variable {H : Type} {enc : TypeId × Value → H} {W : World} {a : Option Addr} {len cap : Nat} {d : DataW H} {ps : List MemPlace}
/-- The datum of a slice of n elements. -/
def Sz (d : DataW H) (n : Nat) : Prop := (d = .nil ∧ n = 0) ∨ ∃ el sp, d = .slice el sp ∧ el.length = n
theorem u8_of_wf {z : Int} (h : (Lit.int .u8 z).wf = true) : fu8 (UInt8.ofNat z.toNat) = .int .u8 z := by
  have hx : 0 ≤ z ∧ z ≤ 255 := by simpa [Lit.wf, IntKind.min, IntKind.max, IntKind.signed, IntKind.bits] using h
  unfold fu8
  rw [UInt8.toNat_ofNat']
  congr 1
  omega
theorem int_of_wf {z : Int} (h : (Lit.int .i64 z).wf = true) : -9223372036854775808 ≤ z ∧ z ≤ 9223372036854775807 := by
  simpa [Lit.wf, IntKind.min, IntKind.max, IntKind.signed, IntKind.bits] using h
theorem in_bytes (h : DataW.Trod enc Try.prog W 0 (fun _ => true) true 28 (.slice a len cap) d ps) : ∃ xs : List UInt8, len = xs.length ∧ xs.length ≤ cap ∧ Seg W a (xs.map fu8) ∧ Sz d xs.length := by
  obtain ⟨fuel, hf⟩ := h
  rcases open_ints Try.underlying28 Try.underlying5 (by kernel_rfl) hf with ⟨hcs, hx⟩ | ⟨x, l, c, zs, hcs, _, hl, hm, hz, hx, hcell, hwz⟩
  · simp [Value.cells] at hcs
    obtain ⟨rfl, rfl, rfl⟩ := hcs
    simp only [Prod.mk.injEq] at hx
    exact ⟨[], rfl, Nat.le_refl _, Seg.nil _ _, .inl ⟨hx.1, rfl⟩⟩
  · simp [Value.cells] at hcs
    obtain ⟨rfl, rfl, rfl⟩ := hcs
    simp only [if_pos] at hz
    simp only [Prod.mk.injEq] at hx
    refine ⟨(zs.take len).map fun z => UInt8.ofNat z.toNat, by simp; omega, by simp; omega, fun j u hu => ⟨_, rfl, ?_⟩, .inr ⟨_, _, hx.1, by simp [lits]⟩⟩
    rw [List.map_map, List.getElem?_map, Option.map_eq_some_iff] at hu
    obtain ⟨z, hz1, rfl⟩ := hu
    rw [List.getElem?_take] at hz1
    split at hz1
    · have hjl := (List.getElem?_eq_some_iff.1 hz1).1
      have hzz : zs.getD j 0 = z := by rw [List.getD_eq_getElem?_getD, hz1]; rfl
      rw [hcell j hjl, hzz]
      exact congrArg some (u8_of_wf (hwz z (List.mem_of_getElem? hz1))).symm
    · cases hz1
theorem in_ints (h : DataW.Trod enc Try.prog W 0 (fun _ => true) true 22 (.slice a len cap) d ps) : ∃ xs : List Int, len = xs.length ∧ xs.length ≤ cap ∧ Seg W a (xs.map fint) ∧ InI xs ∧ Sz d xs.length := by
  obtain ⟨fuel, hf⟩ := h
  rcases open_ints Try.underlying22 Try.underlying3 (by kernel_rfl) hf with ⟨hcs, hx⟩ | ⟨x, l, c, zs, hcs, _, hl, hm, hz, hx, hcell, hwz⟩
  · simp [Value.cells] at hcs
    obtain ⟨rfl, rfl, rfl⟩ := hcs
    simp only [Prod.mk.injEq] at hx
    exact ⟨[], rfl, Nat.le_refl _, Seg.nil _ _, fun z hz => by simp at hz, .inl ⟨hx.1, rfl⟩⟩
  · simp [Value.cells] at hcs
    obtain ⟨rfl, rfl, rfl⟩ := hcs
    simp only [if_pos] at hz
    simp only [Prod.mk.injEq] at hx
    refine ⟨zs.take len, by simp; omega, by simp; omega, fun j u hu => ⟨_, rfl, ?_⟩, fun z hz1 => int_of_wf (hwz z (List.mem_of_mem_take hz1)), .inr ⟨_, _, hx.1, by simp [lits]⟩⟩
    rw [List.getElem?_map, Option.map_eq_some_iff] at hu
    obtain ⟨z, hz1, rfl⟩ := hu
    rw [List.getElem?_take] at hz1
    split at hz1
    · have hjl := (List.getElem?_eq_some_iff.1 hz1).1
      have hzz : zs.getD j 0 = z := by rw [List.getD_eq_getElem?_getD, hz1]; rfl
      rw [hcell j hjl, hzz]
      rfl
    · cases hz1
theorem in_strs (h : DataW.Trod enc Try.prog W 0 (fun _ => true) true 23 (.slice a len cap) d ps) : ∃ xs : List ByteArray, len = xs.length ∧ xs.length ≤ cap ∧ Seg W a (xs.map fstr) ∧ ((d = .nil ∧ xs = []) ∨ ∃ sp, d = .slice (xs.map fun s => .lit (.string s.data.toList)) sp) := by
  obtain ⟨fuel, hf⟩ := h
  rcases open_strings Try.underlying23 Try.underlying9 (by kernel_rfl) hf with ⟨hcs, hx⟩ | ⟨x, l, c, zs, hcs, _, hl, hm, hz, hx, hcell, hwz⟩
  · simp [Value.cells] at hcs
    obtain ⟨rfl, rfl, rfl⟩ := hcs
    simp only [Prod.mk.injEq] at hx
    exact ⟨[], rfl, Nat.le_refl _, Seg.nil _ _, .inl ⟨hx.1, rfl⟩⟩
  · simp [Value.cells] at hcs
    obtain ⟨rfl, rfl, rfl⟩ := hcs
    simp only [if_pos] at hz
    simp only [Prod.mk.injEq] at hx
    refine ⟨zs.take len, by simp; omega, by simp; omega, fun j u hu => ⟨_, rfl, ?_⟩, .inr ⟨_, hx.1⟩⟩
    rw [List.getElem?_map, Option.map_eq_some_iff] at hu
    obtain ⟨z, hz1, rfl⟩ := hu
    rw [List.getElem?_take] at hz1
    split at hz1
    · have hjl := (List.getElem?_eq_some_iff.1 hz1).1
      have hzz : zs.getD j ByteArray.empty = z := by rw [List.getD_eq_getElem?_getD, hz1]; rfl
      rw [hcell j hjl, hzz]
      rfl
    · cases hz1
end
/-- Where a cell of a flat row of rows lies. -/
theorem flat_inv {α : Type} (n : Nat) : ∀ (l : List (List α)) (q : Nat) (x : α), (∀ e ∈ l, e.length = n) → l.flatten[q]? = some x → ∃ i r e, q = i * n + r ∧ l[i]? = some e ∧ e[r]? = some x
  | [], q, x, _, h => by simp at h
  | e :: l, q, x, hl, h => by
    have he := hl e (List.mem_cons_self ..)
    rw [List.flatten_cons] at h
    by_cases hq : q < n
    · rw [List.getElem?_append_left (by omega)] at h
      exact ⟨0, q, e, by omega, rfl, h⟩
    · rw [List.getElem?_append_right (by omega), he] at h
      obtain ⟨i, r, e', h1, h2, h3⟩ := flat_inv n l (q - n) x (fun e' h' => hl e' (List.mem_cons_of_mem _ h')) h
      exact ⟨i + 1, r, e', by rw [Nat.succ_mul]; omega, by simpa using h2, h3⟩
section
variable {H : Type} {enc : TypeId × Value → H} {W : World} {a : Option Addr} {len cap : Nat} {d : DataW H} {ps : List MemPlace}
theorem one_digest {fuel : Nat} {cs : List Value} {x : DataW H × List MemPlace} {base : Nat} {spare : Nat → Bool} {held : Bool} (h : DataW.trod enc Try.prog W base spare held fuel 57 cs = some x) : ∃ e : List UInt8, e.length = 16 ∧ cs = e.map fu8 := by
  have hcs1 : Try.prog.cellsOf 5 = 1 := by kernel_rfl
  have hcs16 : Try.prog.cellsOf 57 = 16 := by kernel_rfl
  obtain ⟨xs, m, _, _, hlen, hn, hel⟩ := DataW.trod_array Try.underlying57 h
  rw [hcs16] at hlen
  rw [hcs1] at hel
  have key : ∀ c ∈ cs, ∃ b : UInt8, c = fu8 b := by
    intro c hc
    obtain ⟨j, hj, rfl⟩ := List.mem_iff_getElem.1 hc
    have hj16 : j < 16 := by omega
    have h1 := hel j hj16
    rw [Nat.mul_one, List.drop_eq_getElem_cons hj, List.take_succ_cons, List.take_zero] at h1
    have hx : j < xs.length := by omega
    rw [List.getElem?_eq_getElem hx] at h1
    obtain ⟨z, hz1, _, hz2⟩ := DataW.trod_int Try.underlying5 h1
    simp only [List.cons.injEq, and_true] at hz1
    exact ⟨UInt8.ofNat z.toNat, by rw [hz1, u8_of_wf hz2]⟩
  have build : ∀ l : List Value, (∀ c ∈ l, ∃ b : UInt8, c = fu8 b) → ∃ e : List UInt8, l = e.map fu8 := by
    intro l
    induction l with
    | nil => exact fun _ => ⟨[], rfl⟩
    | cons c l ih =>
      intro hh
      obtain ⟨b, rfl⟩ := hh c (List.mem_cons_self ..)
      obtain ⟨e, rfl⟩ := ih (fun c' hc' => hh c' (List.mem_cons_of_mem _ hc'))
      exact ⟨b :: e, rfl⟩
  obtain ⟨e, rfl⟩ := build cs key
  exact ⟨e, by simpa using hlen, rfl⟩
theorem in_digs (h : DataW.Trod enc Try.prog W 0 (fun _ => true) true 24 (.slice a len cap) d ps) : ∃ xs : List (List UInt8), len = xs.length ∧ Seg W a (xs.flatten.map fu8) ∧ (∀ e ∈ xs, e.length = 16) ∧ Sz d xs.length := by
  have hcs16 : Try.prog.cellsOf 57 = 16 := by kernel_rfl
  obtain ⟨fuel, hf⟩ := h
  rcases Deep.open_slice Try.underlying24 hf with ⟨hcs, hx⟩ | ⟨x, l, c, m, n, D, Pl, hcs, _, hl, hm, hmm, hx, hel⟩
  · simp [Value.cells] at hcs
    obtain ⟨rfl, rfl, rfl⟩ := hcs
    simp only [Prod.mk.injEq] at hx
    exact ⟨[], rfl, Seg.nil _ _, fun e he => by simp at he, .inl ⟨hx.1, rfl⟩⟩
  · simp [Value.cells] at hcs
    obtain ⟨rfl, rfl, rfl⟩ := hcs
    simp only [if_pos] at hmm
    simp only [Prod.mk.injEq] at hx
    have key : ∀ i, ∃ e : List UInt8, i < len → e.length = 16 ∧ ∀ r u, e[r]? = some u → W.cell? ((x.add (i * 16)).add r) = some (fu8 u) := by
      intro i
      by_cases hi : i < len
      · obtain ⟨cs', hc1, hc2⟩ := hel i (by omega)
        rw [hcs16] at hc1
        obtain ⟨e, he, rfl⟩ := one_digest hc2
        refine ⟨e, fun _ => ⟨he, fun r u hu => ?_⟩⟩
        obtain ⟨_, _, hcell⟩ := World.cells?_some hc1
        have hr := (List.getElem?_eq_some_iff.1 hu).1
        have := hcell r (by omega)
        rw [this, List.getElem?_map, hu]
        rfl
      · exact ⟨[], fun hh => absurd hh hi⟩
    have ⟨F, hF⟩ := Classical.axiomOfChoice key
    have hmem : ∀ e ∈ (List.range len).map F, e.length = 16 := by
      intro e he
      obtain ⟨i, hi, rfl⟩ := List.mem_map.1 he
      exact (hF i (List.mem_range.1 hi)).1
    refine ⟨(List.range len).map F, by simp, fun q u hu => ⟨_, rfl, ?_⟩, hmem, .inr ⟨_, _, hx.1, by simp⟩⟩
    rw [List.getElem?_map, Option.map_eq_some_iff] at hu
    obtain ⟨v, hv, rfl⟩ := hu
    obtain ⟨i, r, e, rfl, h2, h3⟩ := flat_inv 16 _ q v hmem hv
    rw [List.getElem?_map, Option.map_eq_some_iff] at h2
    obtain ⟨i', hi', rfl⟩ := h2
    have hii := List.getElem?_eq_some_iff.1 hi'
    simp only [List.getElem_range, List.length_range] at hii
    obtain ⟨hlt, rfl⟩ := hii
    rw [← add_add]
    exact (hF i hlt).2 r v h3
end
theorem sz_reach {H : Type} {P : Program} {ts : List TypeId} {ds : List (DataW H)} (h : (DataW.weightsEach P ts ds).all (· ≤ reachBytes) = true) {j : Nat} {t e : TypeId} {d : DataW H} {n k : Nat} (hz : Sz d n) (ht : ts[j]? = some t) (hd : ds[j]? = some d) (hu : P.underlying t = some (.slice e)) (hk : P.bytesOf e = k) : n * k ≤ 140737488351232 := by
  rcases hz with ⟨_, rfl⟩ | ⟨el, sp, rfl, rfl⟩
  · omega
  · have := sized_slice h ht hd hu
    rw [hk, Nat.add_mul] at this
    have hr : reachBytes = 140737488351232 := by decide
    omega
theorem str_reach {H : Type} {P : Program} {ts : List TypeId} {ds : List (DataW H)} (h : (DataW.weightsEach P ts ds).all (· ≤ reachBytes) = true) {j : Nat} {t : TypeId} {s : ByteArray} (ht : ts[j]? = some t) (hd : ds[j]? = some (.lit (.string s.data.toList))) : s.size ≤ 140737488351232 := by
  have := sized_string h ht hd
  rw [bl_len] at this
  have hr : reachBytes = 140737488351232 := by decide
  omega
end Go.Proofs.Ytdmindmelaemjaa
