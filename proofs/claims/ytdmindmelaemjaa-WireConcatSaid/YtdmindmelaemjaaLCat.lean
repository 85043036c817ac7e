/- custodylaw01.WireConcat returns true; nothing that was there turns. -/
import Derived.Test.YtdmindmelaemjaaLTrip
namespace Go.Proofs.Ytdmindmelaemjaa
open Go.RowKit
set_option maxRecDepth 100000 in
set_option maxHeartbeats 1000000 in
theorem walk_cat (s : ByteArray) (l : List Int) (A1 : Option Addr) (c1 : Nat) (w : World) (h1 : Seg w A1 (l.map fint)) (hI : InI l) (hs : s.size ≤ 140737488351232) (hl : l.length ≤ 140737488351232) :
    Calls Try.prog 10 #[.string s, .slice A1 l.length c1] w (RetV (.bool true) w) := by
  have HI := Lib.hid hI
  clear hI
  by_cases hbig : 2000 < s.size + l.length
  · have hb1 : decide ((2000 : Int) < (s.size : Int) + (l.length : Int)) = true := by simp; omega
    go_enter Try.func10, Try.ntmps10
    go_wp2_with fail
    refine (sanity_s _).mono ?_
    rintro e w1 ⟨rfl, hb⟩
    go_wp2_with fail
    go_ret
    exact ⟨rfl, hb⟩
  · have hb1 : decide ((2000 : Int) < (s.size : Int) + (l.length : Int)) = false := by simp; omega
    have hl1 : (encBytes s).length ≤ 2009 := by have := encInt_le s.size; simp only [encBytes, List.length_append, bl_len]; omega
    have hl2 : (encInts l).length ≤ 18009 := by have := encInts_le l; omega
    have hd1 := bytes_enc s (by omega) (encInts l)
    have hd2 := ints_enc l (by omega) HI.out []
    rw [List.append_nil] at hd2
    have HD1 := Lib.hid hd1
    have HD2 := Lib.hid hd2
    clear hd1 hd2
    go_enter Try.func10, Try.ntmps10
    go_wp2_with fail
    refine (bytes_any s _ (by omega)).mono ?_
    rintro e w1 ⟨v, rfl, hown, hB⟩
    go_wp2_with fail
    refine (ints_s _ l A1 c1 (h1.below hB) HI.out (by omega)).mono ?_
    rintro e w2 ⟨Al, cl, rfl, _, sl, hb2⟩
    go_wp2_with (at_builtin; refine app_bs (hown.below hb2) (below_then hB hB.size hb2) (Nat.le_trans hB.size hb2.size) (by omega) sl rfl (.tmp 20) (.tmp 22) rfl rfl rfl rfl ?_; intro v2 w3 hown3 hb3 hs3; obtain ⟨A3, c3, rfl, hc3, s3⟩ := hown3.seg)
    rw [List.length_append] at hc3
    have hcall := getbytes_s w3 (encBytes s ++ encInts l) A3 c3 s3 (by rw [List.length_append]; exact hc3) (by rw [List.length_append]; omega) _ _ _ HD1.out
    rw [List.length_append] at hcall
    refine hcall.mono ?_
    clear hcall
    rintro e w4 ⟨rfl, hb4⟩
    have hB4 := below_then hb3 hb3.size hb4
    have s4 := s3.below hb4
    go_wp2_with (refine op_cut (encBytes s).length ((encBytes s).length + (encInts l).length) s4 28 5 _ _ (.tmp 43) _ _ rfl rfl Try.underlying28 siz_u8 rfl ?_ ?_ (.inl rfl) (.inr ⟨rfl, rfl⟩) ?_ ?_ ?_; exact List.length_append.symm; exact hc3; omega; omega; intro A' hS2; rw [List.drop_left, Nat.add_sub_cancel_left, List.take_length] at hS2; rw [Nat.add_sub_cancel_left])
    refine (getints_s w4 (encInts l) A' (c3 - (encBytes s).length) hS2 (by omega) (by omega) _ _ _ HD2.out).mono ?_
    rintro e w5 ⟨A6, c6, rfl, hc6, s6, hb6⟩
    have hB6 := below_then hB4 hB4.size hb6
    go_wp2_with fail
    refine (sanity_s _).mono ?_
    rintro e w7 ⟨rfl, hb7⟩
    have hB7 := below_then hB6 hB6.size hb7
    go_wp2_with fail
    refine (samei_t w7 l l A6 A1 c6 c1 (s6.below hb7) (h1.below hB7) hl rfl).mono ?_
    rintro e w8 ⟨rfl, hb8⟩
    go_wp2_with fail
    go_ret
    exact ⟨rfl, below_then hB7 hB7.size hb8⟩
end Go.Proofs.Ytdmindmelaemjaa
