/- What an argument's size says of the strings that it holds. -/
import Derived.Test.YtdmindmelaemjaaBulk
namespace Go.Proofs.Ytdmindmelaemjaa
open Go.RowKit
theorem weights_mem {H : Type} {P : Program} {e : TypeId} {l : List (DataW H)} {x : DataW H} (h : x ∈ l) : ∀ n ∈ x.weights P e, n ∈ DataW.weightsAll P e l := by
  induction l with
  | nil => cases h
  | cons a l ih =>
    intro n hn
    simp only [DataW.weightsAll, List.mem_append]
    rcases List.mem_cons.1 h with rfl | h
    · exact Or.inl hn
    · exact Or.inr (ih h n hn)
theorem strs_reach {H : Type} {P : Program} {ts : List TypeId} {ds : List (DataW H)} (h : (DataW.weightsEach P ts ds).all (· ≤ reachBytes) = true) {j : Nat} {t e : TypeId} {d : DataW H} {xs : List ByteArray}
    (hz : (d = .nil ∧ xs = []) ∨ ∃ sp, d = .slice (xs.map fun s => .lit (.string s.data.toList)) sp) (ht : ts[j]? = some t) (hd : ds[j]? = some d) (hu : P.underlying t = some (.slice e)) : ∀ y ∈ xs, y.size ≤ 140737488351232 := by
  intro y hy
  rcases hz with ⟨_, rfl⟩ | ⟨sp, rfl⟩
  · cases hy
  · have hr : reachBytes = 140737488351232 := by decide
    have := of_decide_eq_true (List.all_eq_true.1 h _ (DataW.weights_mem_each ht hd y.data.toList.length (by
      simp only [DataW.weights, hu, List.mem_cons, List.mem_append]
      exact Or.inr (Or.inl (weights_mem (List.mem_map.2 ⟨y, hy, rfl⟩) _ (by simp [DataW.weights]))))))
    rw [bl_len] at this
    omega
theorem strs_count {H : Type} {P : Program} {ts : List TypeId} {ds : List (DataW H)} (h : (DataW.weightsEach P ts ds).all (· ≤ reachBytes) = true) {j : Nat} {t e : TypeId} {d : DataW H} {xs : List ByteArray}
    (hz : (d = .nil ∧ xs = []) ∨ ∃ sp, d = .slice (xs.map fun s => .lit (.string s.data.toList)) sp) (ht : ts[j]? = some t) (hd : ds[j]? = some d) (hu : P.underlying t = some (.slice e)) (hk : P.bytesOf e = 16) : xs.length ≤ 140737488351232 := by
  rcases hz with ⟨_, rfl⟩ | ⟨sp, rfl⟩
  · exact Nat.zero_le _
  · have := sized_slice h ht hd hu
    rw [hk, List.length_map] at this
    have hr : reachBytes = 140737488351232 := by decide
    omega
end Go.Proofs.Ytdmindmelaemjaa
