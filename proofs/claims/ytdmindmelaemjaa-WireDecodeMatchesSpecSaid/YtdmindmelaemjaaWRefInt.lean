import Derived.Test.YtdmindmelaemjaaWInt
namespace Go.Proofs.Ytdmindmelaemjaa
open Go.RowKit
theorem u8s_single (b : UInt8) : u8s [b] = [.int .u8 (b.toNat : Int)] := rfl
theorem ihd_pos (k : Nat) (h : k ≤ 8) : 128 + (k : Int) = ((ihd k 0).toNat : Int) := by
  unfold ihd
  rw [UInt8.xor_zero, UInt8.toNat_ofNat']
  omega
theorem ihd_neg (k : Nat) (h : k ≤ 8) : 127 - (k : Int) = ((ihd k 255).toNat : Int) := by
  have : k = 0 ∨ k = 1 ∨ k = 2 ∨ k = 3 ∨ k = 4 ∨ k = 5 ∨ k = 6 ∨ k = 7 ∨ k = 8 := by omega
  rcases this with h | h | h | h | h | h | h | h | h <;> subst h <;> rfl
theorem le_get (M k j : Nat) (h : j < k) : (le k M)[j]? = some (ldig M j) := by
  induction k with
  | zero => omega
  | succ k ih =>
    rw [le]
    by_cases e : j = k
    · subst e
      rw [List.getElem?_append_right (by rw [le_len]; exact Nat.le_refl _), le_len, Nat.sub_self]
      rfl
    · rw [List.getElem?_append_left (by rw [le_len]; omega)]
      exact ih (by omega)
theorem le_at (M k j : Nat) (h : j < k) : (u8s (le k M))[j]? = some (.int .u8 ((ldig M j).toNat : Int)) := by
  rw [u8s, List.getElem?_map, le_get M k j h]
  rfl
theorem idig_pos (M j : Nat) : ((ldig M j).toNat : Int) = ((idig M j 0).toNat : Int) := by rw [ldig, idig, UInt8.xor_zero]
theorem u8_flip (x : UInt8) : 255 - (x.toNat : Int) = ((x ^^^ 255).toNat : Int) := by
  have h : x ^^^ 255 = 255 - x := by
    rw [← UInt8.toBitVec_inj]
    have hb : ∀ b : BitVec 8, b ^^^ 255#8 = 255#8 - b := by decide
    exact hb x.toBitVec
  rw [h, UInt8.toNat_sub_of_le _ _ (by exact UInt8.le_iff_toNat_le.2 (by have := x.toNat_lt; simp; omega))]
  have := x.toNat_lt
  simp
  omega
theorem idig_neg (M j : Nat) : 255 - ((ldig M j).toNat : Int) = ((idig M j 255).toNat : Int) := by rw [ldig, idig, u8_flip]
set_option maxRecDepth 100000 in
set_option maxHeartbeats 400000 in
theorem rint_any (n : Int) (w : World) (h0 : -9223372036854775808 ≤ n) (h1 : n ≤ 9223372036854775807) :
    Calls Try.prog 15 #[.int .i64 n] w fun e w' => ∃ v, e = .returned v ∧ OwnB w' w.heap.size v (encInt n) ∧ Below w.heap.size w w' := by
  go_enter Try.func15, Try.ntmps15
  go_upto_if 11 with (fail)
  go_cut [3] (fun m wx => m = .int .i64 (mag n : Nat) ∧ w = wx)
  case first =>
    by_cases hneg : n < 0
    · have hd : decide (n < 0) = true := by simpa using hneg
      have hx := mag_neg n hneg
      go_wp2_with fail
      go_meet
      case rel => exact ⟨by rw [hx], rfl⟩
    · have hp : 0 ≤ n := by omega
      have hx := (mag_pos n hp).symm
      have hd : decide (n < 0) = false := by simpa using hneg
      clear hneg
      have HX := Lib.hid hx
      clear hx
      go_wp2_with fail
      go_meet
      case rel => exact ⟨by rw [← HX.out], rfl⟩
  case rest =>
    obtain ⟨rfl, rfl⟩ := hcut
    have hM8 : mag n < 9223372036854775808 := by have := mag_pos n; have := mag_neg n; omega
    generalize hM : mag n = M at *
    have HM := Lib.hid hM
    clear hM
    have hn8 := nb_le M
    go_wp2
    go_loopw [3, 4] (fun m v wr => ∃ j : Nat, j ≤ nb M ∧ m = .int .i64 ((M / 256 ^ j : Nat) : Int) ∧ wr.ownsRow w.heap.size 5 1 v j (u8s (le j M)) ∧ Below w.heap.size w wr) (fun m _ _ => (intOf m).toNat)
    case atStart => exact ⟨0, Nat.zero_le _, by simp, World.ownsRow_nil _ _ _ _, Below.refl _ _⟩
    case round =>
      obtain ⟨j, hj, rfl, hown, hb⟩ := hrel
      have hbs := hb.size
      have hst := nb_lt M j (by omega)
      have hdiv := div_step M j
      have hdig := ldig_of M j
      have hlt : M / 256 ^ j < 9223372036854775808 := Nat.lt_of_le_of_lt (Nat.div_le_self _ _) hM8
      generalize hm : M / 256 ^ j = m at *
      have HM' := Lib.hid hm
      clear hm
      rcases Nat.eq_zero_or_pos m with h0 | h0
      · have hjj : j = nb M := by omega
        have hz : decide (0 < (m : Int)) = false := by rw [h0]; rfl
        have hz2 : decide (0 < m) = false := by rw [h0]; rfl
        clear h0
        subst hjj
        clear hst hdiv hdig
        obtain ⟨A, c, rfl, hcc, hseg⟩ := Seg.of_own hown
        have HSEG := Lib.hid hseg
        clear hseg
        generalize hK : nb M = k at *
        have HK := Lib.hid hK
        clear hK
        go_upto_if 27 with (fail)
        go_cut [6] (fun v wx => wx.ownsRow wr.heap.size 5 1 v 1 (u8s [ihd k (flp n)]) ∧ Below wr.heap.size wr wx)
        case first =>
          by_cases hneg : n < 0
          · have hd : decide (0 ≤ n) = false := by simp; omega
            have hx := (ihd_neg k hn8)
            have HF : flp n = 255 := by rw [flp, if_pos hneg]
            have HF := Lib.hid HF
            go_wp2_with (at_builtin; refine app_one wr.heap.size (.tmp 34) (.tmp 38) 28 5 _ 1 rfl rfl Try.underlying28 inf_u8 rfl (by decide) _ 0 [] _ rfl rfl rfl (World.ownsRow_nil _ _ _ _) (Below.refl _ _) (Nat.le_refl _) (by omega) ?_; intro v1 w1 hown1 hb1 hs1)
            go_meet
            case rel => exact ⟨by rw [HF.out]; exact hown1, hb1⟩
          · have hp : 0 ≤ n := by omega
            have hd : decide (0 ≤ n) = true := by simpa using hp
            have hx := (ihd_pos k hn8)
            have HF : flp n = 0 := by rw [flp, if_neg hneg]
            have HF := Lib.hid HF
            go_wp2_with (at_builtin; refine app_one wr.heap.size (.tmp 28) (.tmp 32) 28 5 _ 1 rfl rfl Try.underlying28 inf_u8 rfl (by decide) _ 0 [] _ rfl rfl rfl (World.ownsRow_nil _ _ _ _) (Below.refl _ _) (Nat.le_refl _) (by omega) ?_; intro v1 w1 hown1 hb1 hs1)
            go_meet
            case rel => exact ⟨by rw [HF.out]; exact hown1, hb1⟩
        case rest =>
          obtain ⟨hown2, hb2⟩ := hcut
          obtain ⟨wr0, rfl⟩ : ∃ wo : World, wo = wr := ⟨_, rfl⟩
          go_wp2
          go_loopw [6, 7] (fun v i wx => ∃ j : Nat, j ≤ k ∧ i = .int .i64 ((j : Int) - 1) ∧ wx.ownsRow wr0.heap.size 5 1 v (1 + (k - j)) (u8s (ipre k M (flp n) j)) ∧ Below wr0.heap.size wr0 wx) (fun _ i _ => (intOf i + 1).toNat)
          case atStart => exact ⟨k, Nat.le_refl _, rfl, by rw [ipre_start, Nat.sub_self]; exact hown2, hb2⟩
          case round =>
            clear hown2 hb2
            obtain ⟨j, hj, rfl, hown2, hb2⟩ := hrel
            have hbs2 := hb2.size
            rcases Nat.eq_zero_or_pos j with h0 | h0
            · subst h0
              go_wp2
              go_ret
              refine ⟨_, rfl, Own.of (n := 1 + k) ?_ (by rw [encInt_len, HM.out, HK.out]), hb.trans (hb2.mono hbs)⟩
              rw [ipre_end, Nat.sub_zero] at hown2
              rw [encInt, HM.out, HK.out]
              exact own_lower hown2 hbs
            · obtain ⟨j, rfl⟩ : ∃ q, j = q + 1 := ⟨j - 1, by omega⟩
              obtain ⟨ad, rfl, hc0⟩ := HSEG.out.at_ (le_at M k j (by omega))
              have hcell := (hb2.cell (World.block_lt_of_cell? _ _ hc0)).trans hc0
              clear hc0
              by_cases hneg : n < 0
              · have hd : decide (n < 0) = true := by simpa using hneg
                have hx := idig_neg M j
                have HF : flp n = 255 := by rw [flp, if_pos hneg]
                have HF := Lib.hid HF
                go_wp2_with (at_builtin; refine app_one wr0.heap.size (.tmp 54) (.tmp 56) 28 5 _ 1 rfl rfl Try.underlying28 inf_u8 rfl (by decide) _ _ _ _ rfl rfl rfl hown2 hb2 hbs2 (by omega) ?_; intro v1 w1 hown1 hb1 hs1)
                go_roundw
                case rel => exact ⟨j, by omega, by congr 1 <;> omega, by rw [ipre_step k M _ j (by omega), u8s_app, show 1 + (k - j) = 1 + (k - (j + 1)) + 1 from by omega, HF.out]; rw [HF.out] at hown1; exact hown1, hb1⟩
                case measure => simp only [intOf]; omega
              · have hd : decide (n < 0) = false := by simpa using hneg
                have hx := idig_pos M j
                have HF : flp n = 0 := by rw [flp, if_neg hneg]
                have HF := Lib.hid HF
                go_wp2_with (at_builtin; refine app_one wr0.heap.size (.tmp 54) (.tmp 56) 28 5 _ 1 rfl rfl Try.underlying28 inf_u8 rfl (by decide) _ _ _ _ rfl rfl rfl hown2 hb2 hbs2 (by omega) ?_; intro v1 w1 hown1 hb1 hs1)
                go_roundw
                case rel => exact ⟨j, by omega, by congr 1 <;> omega, by rw [ipre_step k M _ j (by omega), u8s_app, show 1 + (k - j) = 1 + (k - (j + 1)) + 1 from by omega, HF.out]; rw [HF.out] at hown1; exact hown1, hb1⟩
                case measure => simp only [intOf]; omega
      · have hs2 := hst.2 h0
        have HD := Lib.hid hdiv
        have HG := Lib.hid hdig
        clear hst hdiv hdig
        go_wp2_with (at_builtin; refine app_one w.heap.size (.tmp 16) (.tmp 20) 28 5 _ 1 rfl rfl Try.underlying28 inf_u8 rfl (by decide) _ _ _ _ rfl rfl rfl hown hb hbs (by omega) ?_; intro v1 w1 hown1 hb1 hs1)
        go_roundw
        case rel => exact ⟨j + 1, hs2, by rw [HD.out]; rfl, by rw [le, u8s_app, u8s_single, ← HG.out]; exact hown1, hb1⟩
        case measure => simp only [intOf]; omega
end Go.Proofs.Ytdmindmelaemjaa
