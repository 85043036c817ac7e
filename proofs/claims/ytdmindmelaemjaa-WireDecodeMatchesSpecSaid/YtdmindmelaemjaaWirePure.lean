/- Plain definitions for the wire package's encodings: digits in base 256, the encoding of an integer, its decoding. No program in sight. -/
namespace Go.Proofs.Ytdmindmelaemjaa
set_option autoImplicit false

/-- k digits of m in base 256, the most significant first. -/
def be : Nat → Nat → List UInt8
  | 0, _ => []
  | k + 1, m => UInt8.ofNat (m / 256 ^ k) :: be k m
/-- The least number of digits, at most f. -/
def nbF : Nat → Nat → Nat
  | 0, _ => 0
  | f + 1, m => if m / 256 ^ f = 0 then nbF f m else f + 1
def nb (m : Nat) : Nat := nbF 8 m
def mag (n : Int) : Nat := if n < 0 then (-1 - n).toNat else n.toNat
def flp (n : Int) : UInt8 := if n < 0 then 255 else 0
def encInt (n : Int) : List UInt8 := (UInt8.ofNat (128 + nb (mag n)) ^^^ flp n) :: (be (nb (mag n)) (mag n)).map (· ^^^ flp n)
theorem be_len (k m : Nat) : (be k m).length = k := by
  induction k with
  | zero => rfl
  | succ k ih => simp [be, ih]
theorem nbF_le (f M : Nat) : nbF f M ≤ f := by
  induction f with
  | zero => exact Nat.le_refl _
  | succ f ih =>
    unfold nbF
    split <;> omega
theorem nb_le (M : Nat) : nb M ≤ 8 := nbF_le 8 M
theorem encInt_len (n : Int) : (encInt n).length = 1 + nb (mag n) := by simp [encInt, be_len]; omega
theorem pow_cast (M k : Nat) : (M : Int) / 2 ^ (8 * k) = ((M / 256 ^ k : Nat) : Int) := by
  have h : (2 : Nat) ^ (8 * k) = 256 ^ k := by rw [Nat.pow_mul]
  rw [← h]
  simp
theorem nbF_stop (k M : Nat) (h1 : 0 < k) (h2 : 0 < (M : Int) / 2 ^ (8 * (k - 1))) : nbF k M = k := by
  obtain ⟨k, rfl⟩ : ∃ q, k = q + 1 := ⟨k - 1, by omega⟩
  rw [Nat.add_sub_cancel, pow_cast] at h2
  unfold nbF
  rw [if_neg (fun e => by rw [e] at h2; omega)]
theorem nbF_step (k M : Nat) (h1 : 0 < k) (h2 : (M : Int) / 2 ^ (8 * (k - 1)) ≤ 0) : nbF k M = nbF (k - 1) M := by
  obtain ⟨k, rfl⟩ : ∃ q, k = q + 1 := ⟨k - 1, by omega⟩
  rw [Nat.add_sub_cancel, pow_cast] at h2
  show (if M / 256 ^ k = 0 then nbF k M else k + 1) = nbF k M
  rw [if_pos (Nat.le_zero.1 (Int.ofNat_le.1 h2))]
theorem mag_pos (n : Int) (h0 : 0 ≤ n) : ((mag n : Nat) : Int) = n := by unfold mag; rw [if_neg (by omega)]; omega
theorem mag_neg (n : Int) (h0 : n < 0) : ((mag n : Nat) : Int) = -1 - n := by unfold mag; rw [if_pos h0]; omega
/-- What has been written when j digits are still to come. -/
def ipre (k M : Nat) (F : UInt8) (j : Nat) : List UInt8 := (UInt8.ofNat (128 + k) ^^^ F) :: ((be k M).take (k - j)).map (· ^^^ F)
def ihd (k : Nat) (F : UInt8) : UInt8 := UInt8.ofNat (128 + k) ^^^ F
def idig (M j : Nat) (F : UInt8) : UInt8 := UInt8.ofNat (M / 256 ^ j) ^^^ F
theorem ipre_start (k M : Nat) (F : UInt8) : ipre k M F k = [ihd k F] := by simp [ipre, ihd]
theorem ipre_end (k M : Nat) (F : UInt8) : ipre k M F 0 = (UInt8.ofNat (128 + k) ^^^ F) :: (be k M).map (· ^^^ F) := by
  unfold ipre
  rw [List.take_of_length_le (by rw [be_len]; omega)]
theorem be_get (k M j : Nat) (h : j < k) : (be k M)[k - 1 - j]? = some (UInt8.ofNat (M / 256 ^ j)) := by
  induction k with
  | zero => omega
  | succ k ih =>
    by_cases e : j = k
    · subst e
      have h0 : j + 1 - 1 - j = 0 := by omega
      rw [h0]
      rfl
    · have h1 : k + 1 - 1 - j = (k - 1 - j) + 1 := by omega
      rw [h1, be, List.getElem?_cons_succ]
      exact ih (by omega)
theorem ipre_step (k M : Nat) (F : UInt8) (j : Nat) (h : j < k) : ipre k M F j = ipre k M F (j + 1) ++ [idig M j F] := by
  have h1 : k - j = (k - 1 - j) + 1 := by omega
  have h2 : k - (j + 1) = k - 1 - j := by omega
  simp only [ipre, h1, h2, List.take_add_one, be_get k M j h, idig]
  simp
/-- The j least significant digits, the least significant first. -/
def ldig (M j : Nat) : UInt8 := UInt8.ofNat (M / 256 ^ j)
def le : Nat → Nat → List UInt8
  | 0, _ => []
  | j + 1, M => le j M ++ [ldig M j]
theorem le_len (j M : Nat) : (le j M).length = j := by
  induction j with
  | zero => rfl
  | succ j ih => simp [le, ih]
theorem div_step (M j : Nat) : M / 256 ^ (j + 1) = M / 256 ^ j / 256 := by rw [Nat.pow_succ, Nat.div_div_eq_div_mul]
theorem nbF_bound (f M : Nat) : M < 256 ^ f → M < 256 ^ nbF f M := by
  induction f with
  | zero => exact id
  | succ f ih =>
    intro h
    unfold nbF
    split
    · rename_i h0
      refine ih ?_
      rcases Nat.div_eq_zero_iff.1 h0 with h2 | h2
      · exact absurd h2 (Nat.pos_iff_ne_zero.1 (Nat.pow_pos (by decide)))
      · exact h2
    · exact h
theorem nbF_least (f M j : Nat) (h : j < nbF f M) : 0 < M / 256 ^ j := by
  induction f with
  | zero => exact absurd h (by simp [nbF])
  | succ f ih =>
    unfold nbF at h
    split at h
    · exact ih h
    · rename_i h0
      exact Nat.div_pos (Nat.le_trans (Nat.pow_le_pow_right (by decide) (by omega)) (Nat.le_of_not_lt (fun hh => h0 (Nat.div_eq_of_lt hh)))) (Nat.pow_pos (by decide))
theorem nb_lt (M j : Nat) (hM : M < 18446744073709551616) : j < nb M ↔ 0 < M / 256 ^ j := by
  refine ⟨nbF_least 8 M j, fun h => ?_⟩
  refine Nat.lt_of_not_le fun hle => ?_
  have h1 := nbF_bound 8 M hM
  have h2 : M < 256 ^ j := Nat.lt_of_lt_of_le h1 (Nat.pow_le_pow_right (by decide) hle)
  rw [Nat.div_eq_of_lt h2] at h
  omega
theorem ldig_of (M j : Nat) : ((M / 256 ^ j : Nat) : Int) % 256 = ((ldig M j).toNat : Int) := by
  rw [ldig, UInt8.toNat_ofNat']
  omega
/-! Lists, strings, lists of strings and of digests -/
def encBytes (s : ByteArray) : List UInt8 := encInt s.size ++ s.data.toList
def encInts (l : List Int) : List UInt8 := encInt l.length ++ l.flatMap encInt
def encStrs (l : List ByteArray) : List UInt8 := encInt l.length ++ l.flatMap encBytes
def encDigs (l : List (List UInt8)) : List UInt8 := encInt l.length ++ l.flatten
theorem encInt_le (n : Int) : (encInt n).length ≤ 9 := by rw [encInt_len]; have := nb_le (mag n); omega
/-- The encoding of a list, as far as k elements. -/
def ep {α : Type} (f : α → List UInt8) (l : List α) (k : Nat) : List UInt8 := encInt l.length ++ (l.take k).flatMap f
theorem ep_zero {α : Type} (f : α → List UInt8) (l : List α) : ep f l 0 = encInt l.length := by simp [ep]
theorem ep_step {α : Type} (f : α → List UInt8) (l : List α) (k : Nat) (x : α) (h : l[k]? = some x) : ep f l (k + 1) = ep f l k ++ f x := by
  simp [ep, List.take_add_one, h]
theorem ep_end {α : Type} (f : α → List UInt8) (l : List α) (k : Nat) (h : l.length ≤ k) : ep f l k = encInt l.length ++ l.flatMap f := by
  rw [ep, List.take_of_length_le h]
theorem ep_le {α : Type} (f : α → List UInt8) (l : List α) (k : Nat) : (ep f l k).length ≤ (ep f l l.length).length := by
  simp only [ep, List.length_append, List.take_length]
  have h : (l.flatMap f).length = ((l.take k).flatMap f).length + ((l.drop k).flatMap f).length := by
    rw [← List.length_append, ← List.flatMap_append, List.take_append_drop]
  omega
theorem flat_le {α : Type} (f : α → List UInt8) (c : Nat) (hf : ∀ x, (f x).length ≤ c) (l : List α) : (l.flatMap f).length ≤ c * l.length := by
  induction l with
  | nil => simp
  | cons a l ih =>
    have := hf a
    simp only [List.flatMap_cons, List.length_append, List.length_cons, Nat.mul_add]
    omega
theorem ep_int_le (l : List Int) (k : Nat) (hk : k ≤ l.length) : (ep encInt l k).length ≤ 9 + 9 * k := by
  have h := flat_le encInt 9 encInt_le (l.take k)
  have h2 := encInt_le l.length
  simp only [ep, List.length_append, List.length_take] at h ⊢
  rw [Nat.min_eq_left hk] at h
  omega

end Go.Proofs.Ytdmindmelaemjaa
