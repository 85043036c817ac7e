/- Decoding lists, in plain Lean. -/
import Derived.Test.YtdmindmelaemjaaWDecPure
namespace Go.Proofs.Ytdmindmelaemjaa
set_option autoImplicit false

theorem decInt_ok (b : List UInt8) (n u : Int) (h : decInt b = (n, u, 0)) : ∃ U : Nat, u = U ∧ 1 ≤ U ∧ U ≤ 9 ∧ U ≤ b.length ∧ -9223372036854775808 ≤ n ∧ n ≤ 9223372036854775807 := by
  rcases b with _ | ⟨x, t⟩
  · simp [decInt] at h
  · simp only [decInt] at h
    by_cases h1 : 8 < hk x
    · rw [if_pos h1] at h; simp at h
    rw [if_neg h1] at h
    by_cases h2 : t.length < hk x
    · rw [if_pos h2] at h; simp at h
    rw [if_neg h2] at h
    by_cases h3 : ((t.take (hk x)).map (· ^^^ fl x)).head? = some 0
    · rw [if_pos h3] at h; simp at h
    rw [if_neg h3] at h
    by_cases h4 : 9223372036854775808 ≤ val ((t.take (hk x)).map (· ^^^ fl x))
    · rw [if_pos h4] at h; simp at h
    rw [if_neg h4] at h
    simp only [Prod.mk.injEq] at h
    refine ⟨hk x + 1, by omega, by omega, by omega, by rw [List.length_cons]; omega, ?_, ?_⟩ <;> (have := h.1; split at this <;> omega)
theorem decInt_err (b : List UInt8) (n u e : Int) (h : decInt b = (n, u, e)) (he : e ≠ 0) : n = 0 ∧ u = 0 := by
  rcases b with _ | ⟨x, t⟩
  · simp [decInt] at h; omega
  · simp only [decInt] at h
    by_cases h1 : 8 < hk x
    · rw [if_pos h1] at h; simp at h; omega
    rw [if_neg h1] at h
    by_cases h2 : t.length < hk x
    · rw [if_pos h2] at h; simp at h; omega
    rw [if_neg h2] at h
    by_cases h3 : ((t.take (hk x)).map (· ^^^ fl x)).head? = some 0
    · rw [if_pos h3] at h; simp at h; omega
    rw [if_neg h3] at h
    by_cases h4 : 9223372036854775808 ≤ val ((t.take (hk x)).map (· ^^^ fl x))
    · rw [if_pos h4] at h; simp at h; omega
    rw [if_neg h4] at h
    simp only [Prod.mk.injEq] at h
    omega
theorem decInt_used (b : List UInt8) (n u e : Int) (h : decInt b = (n, u, e)) : 0 ≤ u ∧ u ≤ 9 := by
  by_cases he : e = 0
  · subst he
    obtain ⟨U, rfl, h1, h2, _⟩ := decInt_ok b n u h
    omega
  · have := decInt_err b n u e h he
    omega
/-- A count of elements of at least s bytes. -/
def decCnt (b : List UInt8) (s : Nat) : Int × Int × Int :=
  if (decInt b).2.2 ≠ 0 then (0, 0, (decInt b).2.2)
  else if (decInt b).1 < 0 then (0, 0, 6)
  else if ((b.length : Int) - (decInt b).2.1) / (s : Int) < (decInt b).1 then (0, 0, 5)
  else decInt b
theorem decCnt_of (b : List UInt8) (s : Nat) (n u e : Int) (h : decInt b = (n, u, e)) :
    decCnt b s = (if e ≠ 0 then (0, 0, e) else if n < 0 then (0, 0, 6) else if ((b.length : Int) - u) / (s : Int) < n then (0, 0, 5) else (n, u, 0)) := by
  simp only [decCnt, h]
  by_cases he : e = 0
  · subst he; rfl
  · simp [he]
theorem decCnt_ok (b : List UInt8) (s : Nat) (n u : Int) (hs : 0 < s) (h : decCnt b s = (n, u, 0)) : ∃ N U : Nat, n = N ∧ u = U ∧ 1 ≤ U ∧ U ≤ 9 ∧ U + N * s ≤ b.length ∧ decInt b = (n, u, 0) := by
  obtain ⟨⟨n', u', e'⟩, hd⟩ : ∃ r, decInt b = r := ⟨_, rfl⟩
  rw [decCnt_of b s n' u' e' hd] at h
  by_cases he : e' = 0
  · subst he
    obtain ⟨U, rfl, h1, h2, h3, h4, h5⟩ := decInt_ok b n' u' hd
    rw [if_neg (by simp)] at h
    by_cases hn : n' < 0
    · rw [if_pos hn] at h; simp at h
    rw [if_neg hn] at h
    by_cases hq : ((b.length : Int) - (U : Int)) / (s : Int) < n'
    · rw [if_pos hq] at h; simp at h
    rw [if_neg hq] at h
    simp only [Prod.mk.injEq, and_true] at h
    obtain ⟨rfl, rfl⟩ := h
    obtain ⟨N, rfl⟩ := Int.eq_ofNat_of_zero_le (by omega : 0 ≤ n')
    refine ⟨N, U, rfl, rfl, h1, h2, ?_, hd⟩
    have hq2 : (N : Int) ≤ ((b.length : Int) - (U : Int)) / (s : Int) := by omega
    have hq3 := (Int.le_ediv_iff_mul_le (by omega : (0 : Int) < (s : Int))).1 hq2
    have hq4 : ((N * s : Nat) : Int) ≤ (b.length : Int) - (U : Int) := by rw [Int.natCast_mul]; exact hq3
    omega
  · rw [if_pos he] at h
    simp only [Prod.mk.injEq] at h
    omega
def decBytes (b : List UInt8) : ByteArray × Int × Int :=
  if (decCnt b 1).2.2 ≠ 0 then (⟨#[]⟩, 0, (decCnt b 1).2.2)
  else (⟨((b.drop (decCnt b 1).2.1.toNat).take (decCnt b 1).1.toNat).toArray⟩, (decCnt b 1).2.1 + (decCnt b 1).1, 0)
/-- k elements, from place p on. -/
def decN {α : Type} (dec : List UInt8 → α × Int × Int) (b : List UInt8) : Nat → Nat → List α → List α × Int × Int
  | 0, p, acc => (acc, p, 0)
  | k + 1, p, acc => if (dec (b.drop p)).2.2 ≠ 0 then ([], 0, (dec (b.drop p)).2.2) else decN dec b k (p + (dec (b.drop p)).2.1.toNat) (acc ++ [(dec (b.drop p)).1])
def decList {α : Type} (dec : List UInt8 → α × Int × Int) (b : List UInt8) : List α × Int × Int :=
  if (decCnt b 1).2.2 ≠ 0 then ([], 0, (decCnt b 1).2.2) else decN dec b (decCnt b 1).1.toNat (decCnt b 1).2.1.toNat []
def decInts := decList decInt
def decStrs := decList decBytes
/-- The k-th digest from place p on, and those before it. -/
def chunks (b : List UInt8) (p : Nat) : Nat → List (List UInt8)
  | 0 => []
  | k + 1 => chunks b p k ++ [(b.drop (p + 16 * k)).take 16]
def decDigs (b : List UInt8) : List (List UInt8) × Int × Int :=
  if (decCnt b 16).2.2 ≠ 0 then ([], 0, (decCnt b 16).2.2) else (chunks b (decCnt b 16).2.1.toNat (decCnt b 16).1.toNat, (decCnt b 16).2.1 + 16 * (decCnt b 16).1, 0)
end Go.Proofs.Ytdmindmelaemjaa
