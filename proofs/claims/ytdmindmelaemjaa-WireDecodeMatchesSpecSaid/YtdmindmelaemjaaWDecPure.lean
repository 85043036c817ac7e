/- Decoding, in plain Lean. -/
import Derived.Test.YtdmindmelaemjaaWirePure
namespace Go.Proofs.Ytdmindmelaemjaa
set_option autoImplicit false

/-! Decoding -/
def val (l : List UInt8) : Nat := l.foldl (fun a d => 256 * a + d.toNat) 0
def fl (h : UInt8) : UInt8 := if h.toNat < 128 then 255 else 0
def hk (h : UInt8) : Nat := (h ^^^ fl h).toNat - 128
/-- An integer at the beginning: the value, the bytes used, the error. -/
def decInt : List UInt8 → Int × Int × Int
  | [] => (0, 0, 5)
  | h :: t =>
    if 8 < hk h then (0, 0, 6)
    else if t.length < hk h then (0, 0, 5)
    else if ((t.take (hk h)).map (· ^^^ fl h)).head? = some 0 then (0, 0, 6)
    else if 9223372036854775808 ≤ val ((t.take (hk h)).map (· ^^^ fl h)) then (0, 0, 6)
    else (if h.toNat < 128 then -1 - (val ((t.take (hk h)).map (· ^^^ fl h)) : Int) else (val ((t.take (hk h)).map (· ^^^ fl h)) : Int), (hk h : Int) + 1, 0)
theorem fl_xor (h : UInt8) : ((h ^^^ fl h).toNat : Int) = 128 + (hk h : Int) := by
  have key : ∀ b : BitVec 8, 128 ≤ (if b.toNat < 128 then b ^^^ 255#8 else b ^^^ 0#8).toNat := by decide
  have h1 := key h.toBitVec
  have h2 : (h ^^^ fl h).toNat = (if h.toBitVec.toNat < 128 then h.toBitVec ^^^ 255#8 else h.toBitVec ^^^ 0#8).toNat := by
    unfold fl
    by_cases hh : h.toNat < 128
    · rw [if_pos hh, if_pos (show h.toBitVec.toNat < 128 from hh)]; rfl
    · rw [if_neg hh, if_neg (show ¬ h.toBitVec.toNat < 128 from hh)]; rfl
  unfold hk
  omega
theorem val_snoc (l : List UInt8) (d : UInt8) : val (l ++ [d]) = 256 * val l + d.toNat := by simp [val]
theorem val_lt (l : List UInt8) : val l < 256 ^ l.length := by
  rw [← List.reverse_reverse l]
  generalize l.reverse = r
  induction r with
  | nil => decide
  | cons d r ih =>
    rw [List.reverse_cons, val_snoc, List.length_append, List.length_singleton, Nat.pow_succ]
    have := d.toNat_lt
    omega
theorem val_take_lt (l : List UInt8) (j : Nat) (h : j < 8) : val (l.take j) < 72057594037927936 := by
  refine Nat.lt_of_lt_of_le (val_lt _) ?_
  rw [List.length_take]
  exact Nat.le_trans (Nat.pow_le_pow_right (by decide) (show min j l.length ≤ 7 by omega)) (by decide)
theorem val_step (l : List UInt8) (j : Nat) (d : UInt8) (h : l[j]? = some d) : val (l.take (j + 1)) = 256 * val (l.take j) + d.toNat := by
  rw [List.take_add_one, h, Option.toList, val_snoc]
end Go.Proofs.Ytdmindmelaemjaa
