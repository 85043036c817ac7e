/- What is decoded without an error stands in the bytes as its encoding. -/
import Derived.Test.YtdmindmelaemjaaLList
namespace Go.Proofs.Ytdmindmelaemjaa
open Go.RowKit
/-- An error, or the bytes used are the encoding. -/
def Can (b c : List UInt8) (u e : Int) : Prop := e ≠ 0 ∨ (e = 0 ∧ ∃ U : Nat, u = U ∧ U ≤ b.length ∧ b.take U = c)
theorem Can.of {b c : List UInt8} {u : Int} (h : b.take u.toNat = c ∧ 0 ≤ u ∧ u ≤ b.length) : Can b c u 0 :=
  .inr ⟨rfl, u.toNat, by omega, by omega, h.1⟩
theorem Can.len {b c : List UInt8} {u : Int} (h : Can b c u 0) : c.length ≤ b.length := by
  rcases h with h | ⟨_, U, _, _, rfl⟩
  · exact absurd rfl h
  · rw [List.length_take]; omega
theorem decN_nil {α : Type} (dec : List UInt8 → α × Int × Int) (b : List UInt8) : ∀ (k p : Nat) (acc l : List α) (u e : Int), decN dec b k p acc = (l, u, e) → e ≠ 0 → l = [] := by
  intro k
  induction k with
  | zero => intro p acc l u e h he; simp only [decN, Prod.mk.injEq] at h; exact absurd h.2.2.symm he
  | succ k ih =>
    intro p acc l u e h he
    rw [decN] at h
    split at h
    · simp only [Prod.mk.injEq] at h; exact h.1.symm
    · exact ih _ _ _ _ _ h he
theorem decN_all {α : Type} (dec : List UInt8 → α × Int × Int) (b : List UInt8) (P : α → Prop) (hP : ∀ c x u, dec c = (x, u, 0) → P x) : ∀ (k p : Nat) (acc l : List α) (u e : Int), decN dec b k p acc = (l, u, e) → (∀ x ∈ acc, P x) → ∀ x ∈ l, P x := by
  intro k
  induction k with
  | zero => intro p acc l u e h ha; simp only [decN, Prod.mk.injEq] at h; rw [← h.1]; exact ha
  | succ k ih =>
    intro p acc l u e h ha
    rw [decN] at h
    split at h
    · simp only [Prod.mk.injEq] at h; rw [← h.1]; intro x hx; cases hx
    · rename_i h0
      refine ih _ _ _ _ _ h fun x hx => ?_
      rcases List.mem_append.1 hx with hx | hx
      · exact ha x hx
      · obtain rfl := List.mem_singleton.1 hx
        refine hP (b.drop p) _ (dec (b.drop p)).2.1 ?_
        have : (dec (b.drop p)).2.2 = 0 := by simpa using h0
        rw [← this]
theorem decList_nil {α : Type} (dec : List UInt8 → α × Int × Int) (b : List UInt8) (l : List α) (u e : Int) (h : decList dec b = (l, u, e)) (he : e ≠ 0) : l = [] := by
  rw [decList] at h
  split at h
  · simp only [Prod.mk.injEq] at h; exact h.1.symm
  · exact decN_nil dec b _ _ _ _ _ _ h he
theorem decList_all {α : Type} (dec : List UInt8 → α × Int × Int) (b : List UInt8) (P : α → Prop) (hP : ∀ c x u, dec c = (x, u, 0) → P x) (l : List α) (u e : Int) (h : decList dec b = (l, u, e)) : ∀ x ∈ l, P x := by
  rw [decList] at h
  split at h
  · simp only [Prod.mk.injEq] at h; rw [← h.1]; intro x hx; cases hx
  · exact decN_all dec b P hP _ _ _ _ _ _ h (fun x hx => by cases hx)
theorem can_int (b : List UInt8) (n u e : Int) (h : decInt b = (n, u, e)) : (-9223372036854775808 ≤ n ∧ n ≤ 9223372036854775807) ∧ Can b (encInt n) u e := by
  by_cases he : e = 0
  · subst he
    obtain ⟨_, _, _, _, _, h1, h2⟩ := decInt_ok b n u h
    exact ⟨⟨h1, h2⟩, .of (int_canon3 b n u h)⟩
  · obtain ⟨rfl, _⟩ := decInt_err b n u e h he
    exact ⟨by omega, .inl he⟩
theorem can_bytes (b : List UInt8) (s : ByteArray) (u e : Int) (h : decBytes b = (s, u, e)) : s.size ≤ b.length ∧ Can b (encBytes s) u e := by
  by_cases he : e = 0
  · subst he
    have hc : Can b (encBytes s) u 0 := .of (bytes_canon b s u h)
    have := hc.len
    rw [encBytes, List.length_append, bl_len] at this
    exact ⟨by omega, hc⟩
  · rw [decBytes] at h
    split at h
    · simp only [Prod.mk.injEq] at h
      rw [← h.1]
      exact ⟨Nat.zero_le _, .inl he⟩
    · simp only [Prod.mk.injEq] at h
      exact absurd h.2.2.symm he
theorem len_flat {α : Type} (enc : α → List UInt8) (hp : ∀ x, 0 < (enc x).length) (l : List α) (m : Int) : l.length ≤ (encInt m ++ l.flatMap enc).length := by
  have := flat_ge hp l
  rw [List.length_append]; omega
theorem can_ints (b : List UInt8) (l : List Int) (u e : Int) (h : decInts b = (l, u, e)) : InI l ∧ l.length ≤ b.length ∧ Can b (encInts l) u e := by
  have hI : InI l := decList_all decInt b _ (fun c x u hc => (can_int c x u 0 hc).1) l u e h
  by_cases he : e = 0
  · subst he
    have hc : Can b (encInts l) u 0 := .of (ints_canon b l u h)
    have h1 := hc.len
    have h2 := len_flat encInt encInt_pos l l.length
    exact ⟨hI, Nat.le_trans h2 h1, hc⟩
  · obtain rfl := decList_nil _ _ _ _ _ h he
    exact ⟨hI, Nat.zero_le _, .inl he⟩
theorem can_strs (b : List UInt8) (l : List ByteArray) (u e : Int) (h : decStrs b = (l, u, e)) : l.length ≤ b.length ∧ (encStrs l).length ≤ 1 + b.length ∧ Can b (encStrs l) u e := by
  by_cases he : e = 0
  · subst he
    have hc : Can b (encStrs l) u 0 := .of (strs_canon b l u h)
    have h1 := hc.len
    have h2 := len_flat encBytes encBytes_pos l l.length
    exact ⟨Nat.le_trans h2 h1, by omega, hc⟩
  · obtain rfl := decList_nil _ _ _ _ _ h he
    exact ⟨Nat.zero_le _, by have : (encStrs []).length = 1 := by decide
                             omega, .inl he⟩
theorem can_digs (b : List UInt8) (l : List (List UInt8)) (u e : Int) (h : decDigs b = (l, u, e)) : (∀ e ∈ l, e.length = 16) ∧ l.length ≤ b.length ∧ Can b (encDigs l) u e := by
  by_cases he : e = 0
  · subst he
    obtain ⟨h1, h2, h3, h4, h5⟩ := digs_canon b l u h
    exact ⟨h4, by omega, .of ⟨h1, h2, h3⟩⟩
  · rw [decDigs] at h
    split at h
    · simp only [Prod.mk.injEq] at h
      rw [← h.1]
      exact ⟨fun e he => (by cases he), Nat.zero_le _, .inl he⟩
    · simp only [Prod.mk.injEq] at h
      exact absurd h.2.2.symm he
end Go.Proofs.Ytdmindmelaemjaa
