import Derived.Test.YtdmindmelaemjaaInfo
import Derived.Test.YtdmindmelaemjaaMem
import Derived.Test.YtdmindmelaemjaaWirePure
import Derived.WalkKit
import Derived.WalkSpells
import Derived.WalkLawsBesides
import Derived.LoopTactic
import Derived.Laws.BitsAllLaws
import Derived.Deep.DeepCutAuto
import Derived.Deep.CutBlock
namespace Go.Proofs.Ytdmindmelaemjaa
open Go.RowKit

/-- What the tail of the loop makes, i digits still to come. -/
theorem u8_of_xor (x : Int) (f : UInt8) (h0 : 0 ≤ x) (h1 : x < 256) : bits .xor .u8 x (f.toNat : Int) = (((UInt8.ofNat x.toNat ^^^ f).toNat : Nat) : Int) := by
  have hf := f.toNat_lt
  rw [u8_xor x f.toNat h0 h1 (by omega) (by omega), UInt8.toNat_xor, UInt8.toNat_ofNat']
  rw [Nat.mod_eq_of_lt (by omega)]
  simp

theorem not_u64 (n : Int) (h0 : n < 0) (h1 : -9223372036854775808 ≤ n) : bits .xor .u64 IntKind.u64.max (IntKind.u64.wrap n) = ((mag n : Nat) : Int) := by
  obtain ⟨m, rfl⟩ : ∃ m : Nat, n = -1 - (m : Int) := ⟨(-1 - n).toNat, by omega⟩
  have hm : m < 9223372036854775808 := by omega
  have hmag : mag (-1 - (m : Int)) = m := by unfold mag; rw [if_pos h0]; omega
  have hw : IntKind.u64.wrap (-1 - (m : Int)) = ((18446744073709551615 - m : Nat) : Int) := by
    simp [IntKind.wrap, IntKind.bits, IntKind.signed]
    omega
  have hmax : IntKind.u64.max = ((18446744073709551615 : Nat) : Int) := by kernel_rfl
  rw [hmag, hw, hmax, u64_xor_nat _ _ (by decide) (by omega)]
  congr 1
  apply Nat.eq_of_testBit_eq
  intro i
  have e1 := Nat.testBit_two_pow_sub_succ (show m < 2 ^ 64 by omega) i
  have e2 := Nat.testBit_two_pow_sub_succ (show 0 < 2 ^ 64 by omega) i
  rw [show 18446744073709551615 - m = 2 ^ 64 - (m + 1) from by omega, show 18446744073709551615 = 2 ^ 64 - (0 + 1) from rfl, Nat.testBit_xor, e1, e2]
  by_cases hi : i < 64
  · simp [hi]
  · simp [hi, Nat.testBit_lt_two_pow (show m < 2 ^ i from Nat.lt_of_lt_of_le (show m < 2 ^ 64 by omega) (Nat.pow_le_pow_right (by decide) (by omega)))]
theorem wrap_u64_in (n : Int) (h0 : 0 ≤ n) (h1 : n ≤ 9223372036854775807) : IntKind.u64.wrap n = n := by
  simp [IntKind.wrap, IntKind.bits, IntKind.signed]
  omega
theorem dig_of (M j : Nat) (F : UInt8) : bits .xor .u8 ((M : Int) / 2 ^ (8 * j) % 256) (F.toNat : Int) = ((idig M j F).toNat : Int) := by
  rw [pow_cast, u8_of_xor _ F (by omega) (by omega), idig]
  congr 3
  apply UInt8.toNat_inj.1
  rw [UInt8.toNat_ofNat', UInt8.toNat_ofNat']
  omega
theorem hd_of (k : Nat) (F : UInt8) (h : k ≤ 8) : bits .xor .u8 (128 + (k : Int)) (F.toNat : Int) = ((ihd k F).toNat : Int) := by
  rw [u8_of_xor _ F (by omega) (by omega), ihd]
  congr 3
theorem own_single (w : World) (b : UInt8) : (w.alloc (.cells #[.int .u8 (b.toNat : Int)] 5)).ownsRow w.heap.size 5 1 (.slice (some ⟨w.heap.size, 0, none⟩) 1 1) 1 (u8s [b]) :=
  ⟨rfl, .inr ⟨w.heap.size, 1, _, rfl, Nat.le_refl _, heap_alloc_new w _, Nat.le_refl _, by decide, rfl, rfl⟩⟩

set_option maxRecDepth 100000 in
set_option maxHeartbeats 400000 in
theorem int_any (n : Int) (w : World) (h0 : -9223372036854775808 ≤ n) (h1 : n ≤ 9223372036854775807) :
    Calls Try.prog 14 #[.int .i64 n] w fun e w' => ∃ v, e = .returned v ∧ OwnB w' w.heap.size v (encInt n) ∧ Below w.heap.size w w' := by
  go_enter Try.func14, Try.ntmps14
  go_wp2
  go_step3
  go_upto_if 11 with (fail)
  go_cut [3, 4] (fun m f wx => m = .int .u64 (mag n : Nat) ∧ f = .int .u8 ((flp n).toNat : Nat) ∧ w = wx)
  case first =>
    by_cases hneg : n < 0
    · have hd : decide (n < 0) = true := by simpa using hneg
      have hx := not_u64 n hneg h0
      go_wp2_with fail
      go_meet
      case rel => exact ⟨rfl, by rw [flp, if_pos hneg]; rfl, rfl⟩
    · have hp : 0 ≤ n := by omega
      have hx := (mag_pos n hp).symm
      have hf : flp n = 0 := by rw [flp, if_neg hneg]
      have hd : decide (n < 0) = false := by simpa using hneg
      clear hneg
      have HX := Lib.hid hx
      have hwr : IntKind.u64.wrap n = n := wrap_u64_in n hp h1
      clear hx
      go_wp2_with fail
      go_meet
      case rel => exact ⟨by rw [← HX.out, hwr], by rw [hf]; rfl, rfl⟩
  case rest =>
    obtain ⟨rfl, rfl, rfl⟩ := hcut
    generalize hM : mag n = M
    generalize hF : flp n = F
    have HM := Lib.hid hM
    have HF := Lib.hid hF
    clear hM hF
    go_wp2
    go_step3
    go_upto_block 0 with (fail)
    go_cut [5] from 14 to 23 (fun k5 wx => k5 = .int .i64 (nb M : Nat) ∧ w = wx)
    case first =>
      go_wp2
      go_loop [5] (fun k5 => ∃ k : Nat, k ≤ 8 ∧ k5 = .int .i64 k ∧ nbF 8 M = nbF k M) (fun k5 => (intOf k5).toNat)
      case atStart => exact ⟨8, by omega, rfl, rfl⟩
      case round =>
        obtain ⟨k, hk, rfl, hnb⟩ := hrel
        have HNB := Lib.hid hnb
        clear hnb
        go_wp2
        · have h1 : 0 < k := by assumption
          have h2 : 0 < (M : Int) / 2 ^ (8 * (k - 1)) := by assumption
          go_meet
          case rel => exact ⟨by rw [nb, HNB.out, nbF_stop k M h1 h2], rfl⟩
        · have h1 : 0 < k := by assumption
          have h2 : (M : Int) / 2 ^ (8 * (k - 1)) ≤ 0 := by assumption
          exact ⟨⟨k - 1, by omega, by congr 1; omega, by rw [HNB.out, nbF_step k M h1 h2]⟩, by simp only [intOf]; omega⟩
        · have h1 : k = 0 := by omega
          subst h1
          go_meet
          case rel => exact ⟨by rw [nb, HNB.out]; rfl, rfl⟩
    case rest =>
      obtain ⟨rfl, rfl⟩ := hcut
      generalize hK : nb M = k
      have HK := Lib.hid hK
      clear hK
      have hk8 : k ≤ 8 := by rw [← HK.out]; exact nbF_le 8 M
      have hx := hd_of k F hk8
      go_wp2
      clear hx
      go_loopw [6, 7] (fun v i wr => ∃ j : Nat, j ≤ k ∧ i = .int .i64 ((j : Int) - 1) ∧ wr.ownsRow w.heap.size 5 1 v (1 + (k - j)) (u8s (ipre k M F j)) ∧ Below w.heap.size w wr) (fun _ i _ => (intOf i + 1).toNat)
      case atStart => exact ⟨k, Nat.le_refl _, rfl, by rw [ipre_start, Nat.sub_self]; exact own_single w _, (Below.refl _ _).alloc (Nat.le_refl _) _⟩
      case round =>
        obtain ⟨j, hj, rfl, hown, hb⟩ := hrel
        have hbs := hb.size
        rcases Nat.eq_zero_or_pos j with h0 | h0
        · subst h0
          go_wp2
          rw [Exit.noGoto_ret]
          go_ret
          refine ⟨_, rfl, Own.of (n := 1 + k) ?_ (by rw [encInt_len, HM.out, HK.out]), hb⟩
          rw [ipre_end, Nat.sub_zero] at hown
          rw [encInt, HM.out, HF.out, HK.out]
          exact hown
        · obtain ⟨j, rfl⟩ : ∃ q, j = q + 1 := ⟨j - 1, by omega⟩
          have hdig := dig_of M j F
          go_wp2_with (at_builtin; refine app_one w.heap.size (.tmp 36) (.tmp 44) 28 5 _ 1 rfl rfl Try.underlying28 inf_u8 rfl (by decide) _ _ _ _ rfl rfl rfl hown hb hbs (by omega) ?_; intro v1 w1 hown1 hb1 hs1)
          clear hdig
          go_roundw
          case rel => exact ⟨j, by omega, by congr 1 <;> omega, by rw [ipre_step k M F j (by omega), u8s_app, show 1 + (k - j) = 1 + (k - (j + 1)) + 1 from by omega]; exact hown1, hb1⟩
          case measure => simp only [intOf]; omega
end Go.Proofs.Ytdmindmelaemjaa
