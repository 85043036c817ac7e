/- custodylaw01.WireDecodeMatchesSpec returns true; nothing that was there turns. -/
import Derived.Test.YtdmindmelaemjaaRDigs
import Derived.Test.YtdmindmelaemjaaCanon
namespace Go.Proofs.Ytdmindmelaemjaa
open Go.RowKit
set_option maxRecDepth 100000 in
set_option maxHeartbeats 4000000 in
theorem walk_dec (b : List UInt8) (A : Option Addr) (c : Nat) (w : World) (hS : Seg w A (b.map fu8)) (hcap : b.length ≤ c) (hl : b.length ≤ 140737488351232) :
    Calls Try.prog 4 #[.slice A b.length c] w (RetV (.bool true) w) := by
  by_cases hbig : 2000 < b.length
  · have hb1 : decide ((2000 : Int) < (b.length : Int)) = true := by simp; omega
    go_enter Try.func4, Try.ntmps4
    go_wp2_with fail
    refine (sanity_s _).mono ?_
    rintro e w1 ⟨rfl, hb⟩
    go_wp2_with fail
    go_ret
    exact ⟨rfl, hb⟩
  · have hb1 : decide ((2000 : Int) < (b.length : Int)) = false := by simp; omega
    obtain ⟨⟨n, i, e⟩, hd1⟩ : ∃ r, decInt b = r := ⟨_, rfl⟩
    obtain ⟨⟨s, j, f⟩, hd2⟩ : ∃ r, decBytes b = r := ⟨_, rfl⟩
    obtain ⟨⟨l, k, g⟩, hd3⟩ : ∃ r, decInts b = r := ⟨_, rfl⟩
    obtain ⟨⟨x, o, r⟩, hd4⟩ : ∃ r, decStrs b = r := ⟨_, rfl⟩
    obtain ⟨⟨d, m, h⟩, hd5⟩ : ∃ r, decDigs b = r := ⟨_, rfl⟩
    obtain ⟨_, hs3, _⟩ := can_ints b l k g hd3
    obtain ⟨hs4, _, _⟩ := can_strs b x o r hd4
    obtain ⟨h16, hs5, _⟩ := can_digs b d m h hd5
    have HD1 := Lib.hid hd1
    have HD2 := Lib.hid hd2
    have HD3 := Lib.hid hd3
    have HD4 := Lib.hid hd4
    have HD5 := Lib.hid hd5
    have H16 := Lib.hid h16
    clear hd1 hd2 hd3 hd4 hd5 h16
    have hB : Below w.heap.size w w := Below.refl _ _
    go_enter Try.func4, Try.ntmps4
    go_wp2_with fail
    refine (getint_s _ b A c hS hcap (by omega) _ _ _ HD1.out).mono ?_
    rintro e' w1 ⟨rfl, hb⟩
    replace hB := below_then hB hB.size hb
    replace hS := hS.below hb
    clear hb
    go_wp2_with fail
    refine (rgetint_s b A c _ hS hcap (by omega) _ _ _ HD1.out).mono ?_
    rintro e' w2 ⟨rfl, hb⟩
    replace hB := below_then hB hB.size hb
    replace hS := hS.below hb
    clear hb
    go_wp2_with fail
    refine (getbytes_s _ b A c hS hcap (by omega) _ _ _ HD2.out).mono ?_
    rintro e' w3 ⟨rfl, hb⟩
    replace hB := below_then hB hB.size hb
    replace hS := hS.below hb
    clear hb
    go_wp2_with fail
    refine (rgetbytes_s b A c _ hS hcap (by omega) _ _ _ HD2.out).mono ?_
    rintro e' w4 ⟨rfl, hb⟩
    replace hB := below_then hB hB.size hb
    replace hS := hS.below hb
    clear hb
    go_wp2_with fail
    refine (getints_s _ b A c hS hcap (by omega) _ _ _ HD3.out).mono ?_
    rintro e' w5 ⟨A1, c1, rfl, _, s1, hb⟩
    replace hB := below_then hB hB.size hb
    replace hS := hS.below hb
    clear hb
    go_wp2_with fail
    refine (rgetints_s b A c _ hS hcap (by omega) _ _ _ HD3.out).mono ?_
    rintro e' w6 ⟨A2, c2, rfl, _, s2, hb⟩
    replace hB := below_then hB hB.size hb
    replace hS := hS.below hb
    replace s1 := s1.below hb
    clear hb
    go_wp2_with fail
    refine (samei_t _ l l A1 A2 c1 c2 s1 s2 (by omega) rfl).mono ?_
    rintro e' w7 ⟨rfl, hb⟩
    replace hB := below_then hB hB.size hb
    replace hS := hS.below hb
    replace s1 := s1.below hb
    replace s2 := s2.below hb
    clear hb
    go_wp2_with fail
    refine (getstrs_s _ b A c hS hcap (by omega) _ _ _ HD4.out).mono ?_
    rintro e' w8 ⟨A3, c3, rfl, _, s3, hb⟩
    replace hB := below_then hB hB.size hb
    replace hS := hS.below hb
    replace s1 := s1.below hb
    replace s2 := s2.below hb
    clear hb
    go_wp2_with fail
    refine (rgetstrs_s b A c _ hS hcap (by omega) _ _ _ HD4.out).mono ?_
    rintro e' w9 ⟨A4, c4, rfl, _, s4, hb⟩
    replace hB := below_then hB hB.size hb
    replace hS := hS.below hb
    replace s1 := s1.below hb
    replace s2 := s2.below hb
    replace s3 := s3.below hb
    clear hb
    go_wp2_with fail
    refine (sames_t _ x x A3 A4 c3 c4 s3 s4 (by omega) rfl).mono ?_
    rintro e' w10 ⟨rfl, hb⟩
    replace hB := below_then hB hB.size hb
    replace hS := hS.below hb
    replace s1 := s1.below hb
    replace s2 := s2.below hb
    replace s3 := s3.below hb
    replace s4 := s4.below hb
    clear hb
    go_wp2_with fail
    refine (getdigs_s _ b A c hS hcap (by omega) _ _ _ HD5.out).mono ?_
    rintro e' w11 ⟨A5, c5, rfl, s5, _, hb⟩
    replace hB := below_then hB hB.size hb
    replace hS := hS.below hb
    replace s1 := s1.below hb
    replace s2 := s2.below hb
    replace s3 := s3.below hb
    replace s4 := s4.below hb
    clear hb
    go_wp2_with fail
    refine (rgetdigs_s b A c _ hS hcap (by omega) _ _ _ HD5.out).mono ?_
    rintro e' w12 ⟨A6, c6, rfl, s6, _, hb⟩
    replace hB := below_then hB hB.size hb
    replace hS := hS.below hb
    replace s1 := s1.below hb
    replace s2 := s2.below hb
    replace s3 := s3.below hb
    replace s4 := s4.below hb
    replace s5 := s5.below hb
    clear hb
    go_wp2_with fail
    refine (sanity_s _).mono ?_
    rintro e' w13 ⟨rfl, hb⟩
    replace hB := below_then hB hB.size hb
    replace hS := hS.below hb
    replace s1 := s1.below hb
    replace s2 := s2.below hb
    replace s3 := s3.below hb
    replace s4 := s4.below hb
    replace s5 := s5.below hb
    replace s6 := s6.below hb
    clear hb
    go_wp2_with fail
    refine (samed_t _ d d A5 A6 c5 c6 s5 s6 H16.out H16.out (by omega) rfl).mono ?_
    rintro e' w14 ⟨rfl, hb⟩
    replace hB := below_then hB hB.size hb
    replace hS := hS.below hb
    replace s1 := s1.below hb
    replace s2 := s2.below hb
    replace s3 := s3.below hb
    replace s4 := s4.below hb
    replace s5 := s5.below hb
    replace s6 := s6.below hb
    clear hb
    go_wp2_with fail
    go_ret
    exact ⟨rfl, hB⟩
end Go.Proofs.Ytdmindmelaemjaa
