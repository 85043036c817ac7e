/- What the reference decoder of an integer computes, in plain Lean. -/
import Derived.Test.YtdmindmelaemjaaLList
namespace Go.Proofs.Ytdmindmelaemjaa
open Go.RowKit
/-- The digits, as the decoder reads them. -/
def digs (h : UInt8) (t : List UInt8) : List UInt8 := (t.take (hk h)).map (· ^^^ fl h)
theorem digs_len (h : UInt8) (t : List UInt8) (hk1 : hk h ≤ t.length) : (digs h t).length = hk h := by rw [digs, List.length_map, List.length_take]; omega
theorem hk_neg (h : UInt8) (hn : h.toNat < 128) : fl h = 255 ∧ (hk h : Int) = 127 - (h.toNat : Int) := by
  have h1 : fl h = 255 := by simp [fl, hn]
  have h2 := fl_xor h
  rw [h1] at h2
  have key : ∀ b : BitVec 8, (b ^^^ 255#8).toNat = 255 - b.toNat := by decide
  have h3 : (h ^^^ 255).toNat = 255 - h.toNat := key h.toBitVec
  rw [h3] at h2
  exact ⟨h1, by have := h.toNat_lt; omega⟩
theorem hk_pos (h : UInt8) (hn : ¬ h.toNat < 128) : fl h = 0 ∧ (hk h : Int) = (h.toNat : Int) - 128 := by
  have h1 : fl h = 0 := by simp [fl, hn]
  have h2 := fl_xor h
  rw [h1, UInt8.xor_zero] at h2
  exact ⟨h1, by omega⟩
theorem val_ge (l : List UInt8) (j : Nat) : val (l.take j) * 256 ^ (l.length - j) ≤ val l := by
  have h := foldl_val (l.drop j) (val (l.take j))
  have e : val l = (l.drop j).foldl (fun a d => 256 * a + d.toNat) (val (l.take j)) := by
    conv => lhs; rw [← List.take_append_drop j l]
    rw [val, List.foldl_append]; rfl
  rw [e, h, List.length_drop]
  omega
theorem val_big (l : List UInt8) (j : Nat) (hj : j < l.length) (h : 36028797018963967 < val (l.take j)) : 9223372036854775808 ≤ val l := by
  have h1 := val_ge l j
  have h2 : 256 ^ 1 ≤ 256 ^ (l.length - j) := Nat.pow_le_pow_right (by decide) (by omega)
  have h3 : 36028797018963968 * 256 ≤ val (l.take j) * 256 ^ (l.length - j) := Nat.mul_le_mul (by omega) (by simpa using h2)
  omega
def rn (h : UInt8) (V : Nat) : Int := if h.toNat < 128 then -1 - (V : Int) else (V : Int)
theorem dec_nil : decInt [] = (0, 0, 5) := rfl
theorem dec_far (h : UInt8) (t : List UInt8) (h1 : 8 < hk h) : decInt (h :: t) = (0, 0, 6) := by simp [decInt, h1]
theorem dec_short (h : UInt8) (t : List UInt8) (h1 : hk h ≤ 8) (h2 : t.length < hk h) : decInt (h :: t) = (0, 0, 5) := by
  rw [decInt, if_neg (by omega), if_pos h2]
theorem dec_big (h : UInt8) (t : List UInt8) (h1 : hk h ≤ 8) (h2 : hk h ≤ t.length) (h3 : 9223372036854775808 ≤ val (digs h t)) : decInt (h :: t) = (0, 0, 6) := by
  rw [decInt, if_neg (by omega), if_neg (by omega)]
  unfold digs at h3
  rw [if_pos h3]
  split <;> rfl
theorem dec_fits (h : UInt8) (t : List UInt8) (h1 : hk h ≤ 8) (h2 : hk h ≤ t.length) (h3 : val (digs h t) < 9223372036854775808) :
    decInt (h :: t) = if encInt (rn h (val (digs h t))) = (h :: t).take (hk h + 1) then (rn h (val (digs h t)), (hk h : Int) + 1, 0) else (0, 0, 6) := by
  have hn0 : -9223372036854775808 ≤ rn h (val (digs h t)) := by unfold rn; split <;> omega
  have hn1 : rn h (val (digs h t)) ≤ 9223372036854775807 := by unfold rn; split <;> omega
  split
  · rename_i he
    have hlen : (encInt (rn h (val (digs h t)))).length = hk h + 1 := by rw [he, List.length_take, List.length_cons]; omega
    have hd := dec_enc _ hn0 hn1 ((h :: t).drop (hk h + 1))
    rw [hlen, he, List.take_append_drop] at hd
    rw [hd]
    simp
  · rename_i he
    have hx : decInt (h :: t) = if (digs h t).head? = some 0 then (0, 0, 6) else (rn h (val (digs h t)), (hk h : Int) + 1, 0) := by
      rw [decInt, if_neg (by omega), if_neg (by omega)]
      unfold digs at h3 ⊢
      rw [if_neg (show ¬ 9223372036854775808 ≤ _ by omega)]
      rfl
    rw [hx]
    split
    · rfl
    · rename_i h0
      rw [if_neg h0] at hx
      have hc := dec_canon (h :: t) _ _ hx
      exact absurd hc.symm he
end Go.Proofs.Ytdmindmelaemjaa
