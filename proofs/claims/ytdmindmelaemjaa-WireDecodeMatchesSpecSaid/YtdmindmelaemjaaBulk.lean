/- What the bound of an '..UptoSaid' says of the arguments. -/
import Derived.Test.YtdmindmelaemjaaOpen
import Derived.Test.YtdmindmelaemjaaLEnc
namespace Go.Proofs.Ytdmindmelaemjaa
open Go.RowKit
theorem bulk_pos {H : Type} (d : DataW H) : 1 ≤ Rows.uptoBulk d := by
  cases d with
  | lit l => cases l <;> simp [Rows.uptoBulk]
  | nil => simp [Rows.uptoBulk]
  | ptr d => simp [Rows.uptoBulk]
  | slice elems spare => simp [Rows.uptoBulk]
  | agg parts => simp [Rows.uptoBulk]
  | iface t d => simp [Rows.uptoBulk]
  | map entries => simp [Rows.uptoBulk]
  | held h => simp [Rows.uptoBulk]
theorem bulk_part {H : Type} {d : DataW H} {l : List (DataW H)} (h : d ∈ l) : Rows.uptoBulk d ≤ Rows.uptoBulkAll l := by
  induction l with
  | nil => cases h
  | cons x r ih =>
    simp only [Rows.uptoBulkAll]
    rcases List.mem_cons.1 h with e | e
    · subst e; omega
    · have := ih e; omega
theorem bulk_len {H : Type} (l : List (DataW H)) : l.length ≤ Rows.uptoBulkAll l := by
  induction l with
  | nil => simp [Rows.uptoBulkAll]
  | cons x r ih => have := bulk_pos x; simp only [Rows.uptoBulkAll, List.length_cons]; omega
theorem bulk_arg {H : Type} {d : DataW H} {ds gs : List (DataW H)} (hk : Rows.uptoSmall H (ds ++ gs) = true) (h : d ∈ ds) : Rows.uptoBulk d ≤ 1048576 :=
  Nat.le_trans (bulk_part (List.mem_append_left gs h)) (of_decide_eq_true hk)
theorem sz_bulk {H : Type} {d : DataW H} {n : Nat} (h : Sz d n) (hb : Rows.uptoBulk d ≤ 1048576) : n ≤ 1048576 := by
  rcases h with ⟨_, rfl⟩ | ⟨el, sp, rfl, rfl⟩
  · exact Nat.zero_le _
  · have := bulk_len el
    simp only [Rows.uptoBulk] at hb
    omega
theorem str_bulk {H : Type} {s : ByteArray} (hb : Rows.uptoBulk (DataW.lit (H := H) (.string s.data.toList)) ≤ 1048576) : s.size ≤ 1048576 := by
  simp only [Rows.uptoBulk, bl_len] at hb
  omega
theorem strs_bulk {H : Type} {d : DataW H} {xs : List ByteArray} (h : (d = .nil ∧ xs = []) ∨ ∃ sp, d = .slice (xs.map fun s => .lit (.string s.data.toList)) sp) (hb : Rows.uptoBulk d ≤ 1048576) : tot xs ≤ 1048576 := by
  rcases h with ⟨_, rfl⟩ | ⟨sp, rfl⟩
  · exact Nat.zero_le _
  · have key : ∀ l : List ByteArray, tot l ≤ Rows.uptoBulkAll (l.map fun s => DataW.lit (H := H) (.string s.data.toList)) := by
      intro l
      induction l with
      | nil => exact Nat.zero_le _
      | cons s l ih =>
        simp only [tot] at ih
        simp only [tot, List.length_cons, List.map_cons, List.sum_cons, Rows.uptoBulkAll, Rows.uptoBulk, bl_len]
        omega
    have := key xs
    simp only [Rows.uptoBulk] at hb
    omega
end Go.Proofs.Ytdmindmelaemjaa
