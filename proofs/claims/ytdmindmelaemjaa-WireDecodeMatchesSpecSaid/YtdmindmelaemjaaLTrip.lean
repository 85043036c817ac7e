/- custodylaw01.WireIntRoundTrip returns true; nothing that was there turns. -/
import Derived.Test.YtdmindmelaemjaaLEnc
import Derived.Test.YtdmindmelaemjaaMemD
import Derived.Test.YtdmindmelaemjaaWireLaw
namespace Go.Proofs.Ytdmindmelaemjaa
open Go.RowKit
set_option maxRecDepth 100000 in
set_option maxHeartbeats 1000000 in
theorem walk_trip (n : Int) (hn0 : -9223372036854775808 ≤ n) (hn1 : n ≤ 9223372036854775807) (t : List UInt8) (A1 : Option Addr) (c1 : Nat) (w : World) (h1 : Seg w A1 (t.map fu8)) :
    Calls Try.prog 6 #[.int .i64 n, .slice A1 t.length c1] w (RetV (.bool true) w) := by
  by_cases hbig : 2000 < t.length
  · have hb1 : decide ((2000 : Int) < (t.length : Int)) = true := by simp; omega
    go_enter Try.func6, Try.ntmps6
    go_wp2_with fail
    refine (sanity_s _).mono ?_
    rintro e w1 ⟨rfl, hb⟩
    go_wp2_with fail
    go_ret
    exact ⟨rfl, hb⟩
  · have hb1 : decide ((2000 : Int) < (t.length : Int)) = false := by simp; omega
    have hle := encInt_le n
    have hpos := encInt_pos n
    have hdec := dec_enc n hn0 hn1 t
    have HD := Lib.hid hdec
    clear hdec
    go_enter Try.func6, Try.ntmps6
    go_wp2_with fail
    refine (int_s _ n hn0 hn1).mono ?_
    rintro e w1 ⟨Ab, cb, rfl, hcb, sb, hB⟩
    have h2 := h1.below hB
    go_wp2_with (first
      | (refine op_clip sb 28 5 _ _ (.tmp 16) (.tmp 18) (.tmp 20) rfl rfl Try.underlying28 siz_u8 rfl rfl rfl hcb ?_; intro A' sb')
      | (at_builtin; refine app_full (f := fu8) sb' rfl h2 rfl (.tmp 21) (.tmp 22) 28 5 _ 1 rfl rfl Try.underlying28 inf_u8 rfl (by decide) rfl rfl ?_ ?_; omega; intro A2 c2 w2 hc2 s2 hb2))
    have hcall := getint_s w2 (encInt n ++ t) A2 c2 s2 (by rw [List.length_append]; exact hc2) (by rw [List.length_append]; omega) _ _ _ HD.out
    rw [List.length_append] at hcall
    refine hcall.mono ?_
    clear hcall
    rintro e w3 ⟨rfl, hb3⟩
    go_wp2_with fail
    refine (sanity_s _).mono ?_
    rintro e w4 ⟨rfl, hb4⟩
    go_wp2_with fail
    go_ret
    exact ⟨ret_b (decide_eq_true (by omega)), below_then (below_then (below_then hB hB.size hb2) (below_then hB hB.size hb2).size hb3) (below_then (below_then hB hB.size hb2) (below_then hB hB.size hb2).size hb3).size hb4⟩
end Go.Proofs.Ytdmindmelaemjaa
