/- The order of integers is that of their encodings; no encoding is a proper prefix of another. -/
import Derived.Test.YtdmindmelaemjaaQHead
namespace Go.Proofs.Ytdmindmelaemjaa
open Go Go.RowKit
/-- The first place where two byte strings differ, and there the first one is less. -/
def Lt3 (x y : List UInt8) : Prop := ∃ p u v s t, x = p ++ u :: s ∧ y = p ++ v :: t ∧ u.toNat < v.toNat
theorem Lt3.cons {x y : List UInt8} (a : UInt8) (h : Lt3 x y) : Lt3 (a :: x) (a :: y) := by
  obtain ⟨p, u, v, s, t, rfl, rfl, huv⟩ := h
  exact ⟨a :: p, u, v, s, t, rfl, rfl, huv⟩
theorem Lt3.less {x y : List UInt8} (h : Lt3 x y) : Op.bytesLess x y = true ∧ Op.bytesLess y x = false := by
  obtain ⟨p, u, v, s, t, rfl, rfl, huv⟩ := h
  have h1 : u < v := UInt8.lt_iff_toNat_lt.2 huv
  have h2 : ¬ v < u := fun h => by have := UInt8.lt_iff_toNat_lt.1 h; omega
  have h3 : (v == u) = false := by
    rw [beq_eq_false_iff_ne]
    intro h
    rw [h] at huv
    omega
  induction p with
  | nil => simp [Op.bytesLess, h1, h2, h3]
  | cons a p ih => simpa [Op.bytesLess] using ih
theorem less_self (x : List UInt8) : Op.bytesLess x x = false := by
  induction x with
  | nil => rfl
  | cons a x ih => simp [Op.bytesLess, ih]
theorem Lt3.ne_take {x y : List UInt8} (h : Lt3 x y) (k : Nat) (hk : k = min x.length y.length) : x.take k ≠ y.take k := by
  obtain ⟨p, u, v, s, t, rfl, rfl, huv⟩ := h
  intro he
  have h1 : ((p ++ u :: s).take k)[p.length]? = some u := by
    rw [List.getElem?_take_of_lt (by simp at hk; omega)]; simp
  have h2 : ((p ++ v :: t).take k)[p.length]? = some v := by
    rw [List.getElem?_take_of_lt (by simp at hk; omega)]; simp
  rw [he, h2] at h1
  have := Option.some.inj h1
  rw [this] at huv
  omega
theorem Lt3.ne {x y : List UInt8} (h : Lt3 x y) : x ≠ y := by
  intro he
  subst he
  exact h.ne_take x.length (by simp) rfl
theorem Lt3.not_pre {x y : List UInt8} (h : Lt3 x y) : x.take y.length ≠ y ∧ x ≠ y.take x.length := by
  refine ⟨fun he => ?_, fun he => ?_⟩
  · have hl := congrArg List.length he
    rw [List.length_take] at hl
    exact h.ne_take y.length (by omega) (by rw [he, List.take_length])
  · have hl := congrArg List.length he
    rw [List.length_take] at hl
    exact h.ne_take x.length (by omega) (by rw [← he, List.take_length])
theorem ext_toList (a : ByteArray) (k : Nat) : (a.extract 0 k).toList = a.toList.take k := by
  rw [ByteArray.toList_eq, ByteArray.toList_eq, ByteArray.data_extract, Array.toList_extract]
  simp
theorem xor255 (u : UInt8) : (u ^^^ 255).toNat = 255 - u.toNat := by
  have key : ∀ b : BitVec 8, (b ^^^ 255#8).toNat = 255 - b.toNat := by decide
  exact key u.toBitVec
theorem Lt3.neg {x y : List UInt8} (h : Lt3 x y) : Lt3 (y.map (· ^^^ 255)) (x.map (· ^^^ 255)) := by
  obtain ⟨p, u, v, s, t, rfl, rfl, huv⟩ := h
  refine ⟨p.map (· ^^^ 255), v ^^^ 255, u ^^^ 255, t.map (· ^^^ 255), s.map (· ^^^ 255), by simp, by simp, ?_⟩
  rw [xor255, xor255]
  have := v.toNat_lt
  omega
theorem be_lt : ∀ (k M N : Nat), M < N → N < 256 ^ k → Lt3 (be k M) (be k N) := by
  intro k
  induction k with
  | zero => intro M N h1 h2; simp at h2; omega
  | succ k ih =>
    intro M N h1 h2
    have hp : 0 < 256 ^ k := pow_pos' k
    have hq : M / 256 ^ k ≤ N / 256 ^ k := Nat.div_le_div_right (by omega)
    have hn : N / 256 ^ k < 256 := (Nat.div_lt_iff_lt_mul hp).2 (by rw [Nat.pow_succ, Nat.mul_comm] at h2; exact h2)
    by_cases he : M / 256 ^ k = N / 256 ^ k
    · have hM := Nat.div_add_mod M (256 ^ k)
      have hN := Nat.div_add_mod N (256 ^ k)
      have e1 : be k M = be k (M % 256 ^ k) := by
        conv => lhs; rw [← hM, Nat.mul_comm]
        exact be_mod k _ _
      have e2 : be k N = be k (N % 256 ^ k) := by
        conv => lhs; rw [← hN, Nat.mul_comm]
        exact be_mod k _ _
      have := ih (M % 256 ^ k) (N % 256 ^ k) (by rw [he] at hM; omega) (Nat.mod_lt _ hp)
      rw [← e1, ← e2] at this
      simp only [be]
      rw [he]
      exact this.cons _
    · refine ⟨[], UInt8.ofNat (M / 256 ^ k), UInt8.ofNat (N / 256 ^ k), be k M, be k N, by simp [be], by simp [be], ?_⟩
      rw [UInt8.toNat_ofNat_of_lt' (by show _ < 256; omega), UInt8.toNat_ofNat_of_lt' (by show _ < 256; omega)]
      omega
theorem nb_mono (M N : Nat) (h : M ≤ N) (hN : N < 18446744073709551616) : nb M ≤ nb N := by
  apply Nat.le_of_not_lt
  intro hlt
  have h1 := (nb_lt M (nb N) (by omega)).1 hlt
  have h2 := nb_bound N hN
  have h3 : M / 256 ^ nb N = 0 := Nat.div_eq_of_lt (by omega)
  omega
theorem ihd_val (k : Nat) (hk : k ≤ 8) : (ihd k 0).toNat = 128 + k ∧ (ihd k 255).toNat = 127 - k := by
  have key : ∀ k, k < 9 → (ihd k 0).toNat = 128 + k ∧ (ihd k 255).toNat = 127 - k := by decide
  exact key k (by omega)
theorem map_xor0 (l : List UInt8) : l.map (· ^^^ 0) = l := by
  induction l with
  | nil => rfl
  | cons a l ih => rw [List.map_cons, ih, UInt8.xor_zero]
theorem enc_lt (m n : Int) (hm0 : -9223372036854775808 ≤ m) (hm1 : m ≤ 9223372036854775807) (hn0 : -9223372036854775808 ≤ n) (hn1 : n ≤ 9223372036854775807) (h : m < n) : Lt3 (encInt m) (encInt n) := by
  rw [encInt_cons, encInt_cons]
  have lm := mag_lt m hm0 hm1
  have ln := mag_lt n hn0 hn1
  have km := nb_le (mag m)
  have kn := nb_le (mag n)
  by_cases hm : m < 0
  · have fm : flp m = 255 := by simp [flp, hm]
    by_cases hn : n < 0
    · have fn : flp n = 255 := by simp [flp, hn]
      have e1 := mag_neg m hm
      have e2 := mag_neg n hn
      have hlt : mag n < mag m := by omega
      have hnb := nb_mono (mag n) (mag m) (by omega) (by omega)
      rw [fm, fn]
      by_cases hk : nb (mag m) = nb (mag n)
      · rw [hk]
        refine Lt3.cons _ (Lt3.neg (be_lt _ _ _ hlt ?_))
        rw [← hk]
        exact nb_bound _ (by omega)
      · refine ⟨[], _, _, _, _, rfl, rfl, ?_⟩
        rw [(ihd_val _ km).2, (ihd_val _ kn).2]
        omega
    · have fn : flp n = 0 := by simp [flp, hn]
      rw [fm, fn]
      refine ⟨[], _, _, _, _, rfl, rfl, ?_⟩
      rw [(ihd_val _ km).2, (ihd_val _ kn).1]
      omega
  · have fm : flp m = 0 := by simp [flp, hm]
    have hn : ¬ n < 0 := by omega
    have fn : flp n = 0 := by simp [flp, hn]
    have e1 := mag_pos m (by omega)
    have e2 := mag_pos n (by omega)
    have hlt : mag m < mag n := by omega
    have hnb := nb_mono (mag m) (mag n) (by omega) (by omega)
    rw [fm, fn]
    by_cases hk : nb (mag m) = nb (mag n)
    · rw [hk, map_xor0, map_xor0]
      exact Lt3.cons _ (be_lt _ _ _ hlt (nb_bound _ (by omega)))
    · refine ⟨[], _, _, _, _, rfl, rfl, ?_⟩
      rw [(ihd_val _ km).1, (ihd_val _ kn).1]
      omega
end Go.Proofs.Ytdmindmelaemjaa
