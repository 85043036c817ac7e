/- custodylaw01.WireOrder returns true. -/
import Derived.Test.YtdmindmelaemjaaOrd
import Derived.Deep.RegionWith
namespace Go.Proofs.Ytdmindmelaemjaa
open Go.RowKit
set_option maxRecDepth 100000 in
set_option maxHeartbeats 4000000 in
theorem walk_order (m n : Int) (hm0 : -9223372036854775808 ≤ m) (hm1 : m ≤ 9223372036854775807) (hn0 : -9223372036854775808 ≤ n) (hn1 : n ≤ 9223372036854775807) (w : World) :
    Calls Try.prog 5 #[.int .i64 m, .int .i64 n] w (RetV (.bool true) w) := by
  go_enter Try.func5, Try.ntmps5
  go_wp2_with fail
  go_region_with (first
    | (go_at_call_of 14 (Value.int IntKind.i64 m); refine (int_s _ m hm0 hm1).mono ?_; rintro e w1 ⟨Am, cm, rfl, _, sm, hbm⟩)
    | (go_at_call_of 14 (Value.int IntKind.i64 n); refine (int_s _ n hn0 hn1).mono ?_; rintro e w2 ⟨An, cn, rfl, _, sn, hbn⟩; replace sm := sm.below hbn)
    | rw [run_str (c := cm) 28 9 5 Try.underlying28 Try.underlying5 Try.underlying9 sm rfl]
    | rw [run_str (c := cn) 28 9 5 Try.underlying28 Try.underlying5 Try.underlying9 sn rfl])
  all_goals (
    have hB0 : Below w.heap.size w w2 := below_then (below_then (Below.refl w.heap.size w).drew (Nat.le_refl _) hbm) hbm.size hbn
    have hB := hB0
    clear hB0
    obtain ⟨a, ha⟩ : ∃ a : ByteArray, a = ⟨(encInt m).toArray⟩ := ⟨_, rfl⟩
    obtain ⟨b, hb⟩ : ∃ b : ByteArray, b = ⟨(encInt n).toArray⟩ := ⟨_, rfl⟩
    have hla := encInt_le m
    have hlb := encInt_le n
    have hsa : a.size = (encInt m).length := by rw [ha]; simp [ByteArray.size]
    have hsb : b.size = (encInt n).length := by rw [hb]; simp [ByteArray.size]
    rw [← ha, ← hb]
    have HA := Lib.hid ha
    have HB := Lib.hid hb
    clear ha hb sm sn
    rw [← hsa] at *
    rw [← hsb] at *
    go_wp2_with fail)
  all_goals (
    rcases Int.lt_trichotomy m n with hmn | hmn | hmn
    · skip
      have hsa : a.size = (encInt m).length := by rw [HA.out]; simp [ByteArray.size]
      have hsb : b.size = (encInt n).length := by rw [HB.out]; simp [ByteArray.size]
      have hta : a.toList = encInt m := by rw [ByteArray.toList_eq, HA.out]
      have htb : b.toList = encInt n := by rw [ByteArray.toList_eq, HB.out]
      have hd1 : decide (m < n) = true := decide_eq_true hmn
      have hlt := enc_lt m n hm0 hm1 hn0 hn1 hmn
      have hd2 : Op.bytesLess a.toList b.toList = true := by rw [hta, htb]; exact hlt.less.1
      have hd3 : (m == n) = false := by simp; omega
      have hd4 : (a.toList == b.toList) = false := by rw [hta, htb]; simpa using hlt.ne
      have hd6 : ((a.extract 0 b.size).toList == b.toList) = false := by rw [ext_toList, hsb, hta, htb]; simpa using hlt.not_pre.1
      have hd7 : (a.toList == (b.extract 0 a.size).toList) = false := by rw [ext_toList, hsa, hta, htb]; simpa using hlt.not_pre.2
      clear hta htb hsa hsb
      refine wp_region_head (by kernel_rfl) rfl (by kernel_rfl) (by kernel_rfl) (by kernel_rfl) (fun K hK => ?_)
      go_simp
      refine (sanity_s _).mono ?_
      rintro e w3 ⟨rfl, hb3⟩
      go_simp
      refine hK _ _ ?_
      clear hK K
      repeat (go_big_quiet_step (fail))
      refine wpQuiet_nil ?_
      intro w4 hw4
      obtain ⟨nq, rfl⟩ := hw4
      go_wp2_with fail
      go_ret
      exact ⟨rfl, below_drewN (below_then hB hB.size (below_then (Below.refl _ _).drew (Nat.le_refl _) hb3)) nq⟩
    · skip
      have hsa : a.size = (encInt m).length := by rw [HA.out]; simp [ByteArray.size]
      have hsb : b.size = (encInt n).length := by rw [HB.out]; simp [ByteArray.size]
      have hta : a.toList = encInt m := by rw [ByteArray.toList_eq, HA.out]
      have htb : b.toList = encInt n := by rw [ByteArray.toList_eq, HB.out]
      have hd1 : decide (m < n) = false := decide_eq_false (by omega)
      have hd2 : Op.bytesLess a.toList b.toList = false := by rw [hta, htb, hmn]; exact less_self _
      have hd3 : (m == n) = true := by simp; omega
      have hd4 : (a.toList == b.toList) = true := by rw [hta, htb, hmn]; simp
      have hd6 : ((a.extract 0 b.size).toList == b.toList) = true := by rw [ext_toList, hsb, hta, htb, hmn]; simp
      have hd7 : (a.toList == (b.extract 0 a.size).toList) = true := by rw [ext_toList, hsa, hta, htb, hmn]; simp
      clear hta htb hsa hsb
      refine wp_region_head (by kernel_rfl) rfl (by kernel_rfl) (by kernel_rfl) (by kernel_rfl) (fun K hK => ?_)
      go_simp
      refine (sanity_s _).mono ?_
      rintro e w3 ⟨rfl, hb3⟩
      go_simp
      refine hK _ _ ?_
      clear hK K
      repeat (go_big_quiet_step (fail))
      refine wpQuiet_nil ?_
      intro w4 hw4
      obtain ⟨nq, rfl⟩ := hw4
      go_wp2_with fail
      go_ret
      exact ⟨rfl, below_drewN (below_then hB hB.size (below_then (Below.refl _ _).drew (Nat.le_refl _) hb3)) nq⟩
    · skip
      have hsa : a.size = (encInt m).length := by rw [HA.out]; simp [ByteArray.size]
      have hsb : b.size = (encInt n).length := by rw [HB.out]; simp [ByteArray.size]
      have hta : a.toList = encInt m := by rw [ByteArray.toList_eq, HA.out]
      have htb : b.toList = encInt n := by rw [ByteArray.toList_eq, HB.out]
      have hd1 : decide (m < n) = false := decide_eq_false (by omega)
      have hlt := enc_lt n m hn0 hn1 hm0 hm1 hmn
      have hd2 : Op.bytesLess a.toList b.toList = false := by rw [hta, htb]; exact hlt.less.2
      have hd3 : (m == n) = false := by simp; omega
      have hd4 : (a.toList == b.toList) = false := by rw [hta, htb]; simpa using hlt.ne.symm
      have hd6 : ((a.extract 0 b.size).toList == b.toList) = false := by rw [ext_toList, hsb, hta, htb]; simpa using hlt.not_pre.2.symm
      have hd7 : (a.toList == (b.extract 0 a.size).toList) = false := by rw [ext_toList, hsa, hta, htb]; simpa using hlt.not_pre.1.symm
      clear hta htb hsa hsb
      refine wp_region_head (by kernel_rfl) rfl (by kernel_rfl) (by kernel_rfl) (by kernel_rfl) (fun K hK => ?_)
      go_simp
      refine (sanity_s _).mono ?_
      rintro e w3 ⟨rfl, hb3⟩
      go_simp
      refine hK _ _ ?_
      clear hK K
      repeat (go_big_quiet_step (fail))
      refine wpQuiet_nil ?_
      intro w4 hw4
      obtain ⟨nq, rfl⟩ := hw4
      go_wp2_with fail
      go_ret
      exact ⟨rfl, below_drewN (below_then hB hB.size (below_then (Below.refl _ _).drew (Nat.le_refl _) hb3)) nq⟩)
end Go.Proofs.Ytdmindmelaemjaa
