import Derived.Test.YtdmindmelaemjaaWSame
namespace Go.Proofs.Ytdmindmelaemjaa
open Go.RowKit
set_option maxRecDepth 100000 in
set_option maxHeartbeats 400000 in
theorem samed_any (xs ys : List (List UInt8)) (A B : Option Addr) (c d : Nat) (w : World) (hA : Seg w A (xs.flatten.map fu8)) (hB : Seg w B (ys.flatten.map fu8)) (hx16 : ∀ e ∈ xs, e.length = 16) (hy16 : ∀ e ∈ ys, e.length = 16) (hl : xs.length ≤ 140737488351232) :
    Calls Try.prog 36 #[.slice A xs.length c, .slice B ys.length d] w fun e w' => ∃ m, e = .returned (.bool (decide (xs = ys))) ∧ w' = w.drewN m := by
  have HA := Lib.hid hA
  have HB := Lib.hid hB
  have HX16 := Lib.hid hx16
  have HY16 := Lib.hid hy16
  clear hA hB hx16 hy16
  by_cases hlen : xs.length = ys.length
  · have h1 : ((xs.length : Int) != (ys.length : Int)) = false := by simp [hlen]
    have h2 : (xs.length != ys.length) = false := by simp [hlen]
    have HL := Lib.hid hlen
    clear hlen
    go_enter Try.func36, Try.ntmps36
    go_wp2
    go_loopw [5] (fun i wr => ∃ k m : Nat, k ≤ xs.length ∧ i = .int .i64 k ∧ Hid (xs.take k = ys.take k) ∧ wr = w.drewN m) (fun i _ => xs.length - (intOf i).toNat)
    case atStart => exact ⟨0, 0, Nat.zero_le _, rfl, by simp [Hid], rfl⟩
    case round =>
      clear h1 h2
      obtain ⟨k, m, hk, rfl, heq, rfl⟩ := hrel
      by_cases hlt : k < xs.length
      · obtain ⟨x, hx⟩ := get_of xs k hlt
        obtain ⟨y, hy⟩ := get_of ys k (by rw [← HL.out]; exact hlt)
        obtain ⟨ad, rfl, hcx⟩ := HA.out.row_some 16 (by decide) HX16.out k x hx
        obtain ⟨bd, rfl, hcy⟩ := HB.out.row_some 16 (by decide) HY16.out k y hy
        have hx1 := HX16.out x (List.mem_of_getElem? hx)
        have hy1 := HY16.out y (List.mem_of_getElem? hy)
        have heq1 := fun W => run_eq_dig W x y hx1 hy1
        have HCX := Lib.hid hcx
        have HCY := Lib.hid hcy
        have HX1 := Lib.hid hx1
        have HY1 := Lib.hid hy1
        clear hcx hcy hx1 hy1
        have hd1 : decide ((k : Int) < (xs.length : Int)) = true := by simp; omega
        have hd2 : decide (k < xs.length) = true := by simp; omega
        have hk2 : (k : Int) < (ys.length : Int) := by have := HL.out; omega
        have HX := Lib.hid hx
        have HY := Lib.hid hy
        clear hx hy
        by_cases hxy : x = y
        · rw [decide_eq_true hxy] at heq1
          have HXY := Lib.hid hxy
          clear hxy
          go_wp2
          refine wp_region_quiet_lit (by kernel_rfl) (by kernel_rfl) ?_
          repeat (first | go_big_quiet_step (fail) | quiet_step (fail) | (refine q_load_agg (ad := ad.add (k * 16)) (cs := x.map fu8) (fun W hW => ?_) (.tmp 19) 57 _ rfl rfl Try.underlying57 rfl (by rw [List.length_map, HX1.out]; exact siz_dig) rfl ?_; (obtain ⟨_, rfl⟩ := hW; exact HCX.out)) | (refine q_load_agg (ad := bd.add (k * 16)) (cs := y.map fu8) (fun W hW => ?_) (.tmp 23) 57 _ rfl rfl Try.underlying57 rfl (by rw [List.length_map, HY1.out]; exact siz_dig) rfl ?_; (obtain ⟨_, rfl⟩ := hW; exact HCY.out)))
          refine wpQuiet_nil ?_
          intro _ hw'
          obtain ⟨nq, hw''⟩ := hw'
          subst hw''
          go_wp2
          go_roundw
          case rel => exact ⟨k + 1, _, hlt, by go_num, by show _ = _; rw [List.take_add_one, List.take_add_one, HX.out, HY.out, HXY.out, heq.out], rfl⟩
          case measure => simp only [intOf]; omega
        · rw [decide_eq_false hxy] at heq1
          have HXY := Lib.hid hxy
          clear hxy
          go_wp2
          refine wp_region_quiet_lit (by kernel_rfl) (by kernel_rfl) ?_
          repeat (first | go_big_quiet_step (fail) | quiet_step (fail) | (refine q_load_agg (ad := ad.add (k * 16)) (cs := x.map fu8) (fun W hW => ?_) (.tmp 19) 57 _ rfl rfl Try.underlying57 rfl (by rw [List.length_map, HX1.out]; exact siz_dig) rfl ?_; (obtain ⟨_, rfl⟩ := hW; exact HCX.out)) | (refine q_load_agg (ad := bd.add (k * 16)) (cs := y.map fu8) (fun W hW => ?_) (.tmp 23) 57 _ rfl rfl Try.underlying57 rfl (by rw [List.length_map, HY1.out]; exact siz_dig) rfl ?_; (obtain ⟨_, rfl⟩ := hW; exact HCY.out)))
          refine wpQuiet_nil ?_
          intro _ hw'
          obtain ⟨nq, hw''⟩ := hw'
          subst hw''
          go_wp2
          go_ret
          exact ⟨_, ret_b (decide_eq_false (fun hh => HXY.out (by rw [hh] at HX; exact Option.some.inj (HX.out.symm.trans HY.out)))).symm, by first | rfl | exact World.drewN_drewN ..⟩
      · have hd1 : decide ((k : Int) < (xs.length : Int)) = false := by simp; omega
        have hd2 : decide (k < xs.length) = false := by simp; omega
        go_wp2
        go_ret
        exact ⟨_, ret_b (decide_eq_true (by have := heq.out; rwa [List.take_of_length_le (by omega), List.take_of_length_le (by have := HL.out; omega)] at this)).symm, rfl⟩
  · have h1 : ((xs.length : Int) != (ys.length : Int)) = true := by rw [bne_iff_ne]; omega
    have h2 : (xs.length != ys.length) = true := by simpa using hlen
    have HL := Lib.hid hlen
    clear hlen
    go_enter Try.func36, Try.ntmps36
    go_wp2
    go_ret
    exact ⟨0, ret_b (decide_eq_false (fun hh => HL.out (by rw [hh]))).symm, rfl⟩
end Go.Proofs.Ytdmindmelaemjaa
