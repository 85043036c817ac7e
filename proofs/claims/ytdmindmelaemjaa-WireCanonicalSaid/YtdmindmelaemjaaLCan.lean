/- custodylaw01.WireCanonical returns true; nothing that was there turns. -/
import Derived.Test.YtdmindmelaemjaaCanon
namespace Go.Proofs.Ytdmindmelaemjaa
open Go.RowKit
set_option maxRecDepth 100000 in
set_option maxHeartbeats 1000000 in
theorem is_any (b : List UInt8) (A : Option Addr) (c a0 : Nat) (w : World) (h0 : w.cell? ⟨a0, 0, none⟩ = some (.slice A b.length c)) (hS : Seg w A (b.map fu8)) (hcap : b.length ≤ c)
    (xs : List UInt8) (X : Option Addr) (cx : Nat) (hX : Seg w X (xs.map fu8)) (hxl : xs.length ≤ 100000000) (u e : Int) (hc : Can b xs u e) :
    Calls Try.prog 37 #[.slice X xs.length cx, .int .i64 u, .int .i64 e, .pointer (some ⟨a0, 0, none⟩)] w (RetV (.bool true) w) := by
  rcases hc with he | ⟨rfl, U, rfl, hU, ht⟩
  · have he2 : (e != 0) = true := by simpa using he
    clear he
    go_enter Try.func37, Try.ntmps37
    go_wp2_with fail
    go_ret
    exact ⟨rfl, Below.refl _ _⟩
  · have hS2 : Seg w A ((b.take U).map fu8) := by rw [List.map_take]; exact hS.take _
    have hsame := same_t w xs (b.take U) X A cx c hX hS2 (by omega) ht.symm
    rw [List.length_take, Nat.min_eq_left hU] at hsame
    have HSM := Lib.hid hsame
    clear hsame
    go_enter Try.func37, Try.ntmps37
    go_wp2_with fail
    · refine HSM.out.mono ?_
      rintro e w1 ⟨rfl, hb⟩
      go_wp2_with fail
      go_ret
      exact ⟨rfl, hb⟩
    · obtain rfl : U = 0 := by omega
      refine HSM.out.mono ?_
      rintro e w1 ⟨rfl, hb⟩
      go_wp2_with fail
      go_ret
      exact ⟨rfl, hb⟩
set_option maxRecDepth 100000 in
set_option maxHeartbeats 4000000 in
theorem walk_can (b : List UInt8) (A : Option Addr) (c : Nat) (w : World) (hS : Seg w A (b.map fu8)) (hcap : b.length ≤ c) (hl : b.length ≤ 140737488351232) :
    Calls Try.prog 7 #[.slice A b.length c] w (RetV (.bool true) w) := by
  by_cases hbig : 2000 < b.length
  · have hb1 : decide ((2000 : Int) < (b.length : Int)) = true := by simp; omega
    go_enter Try.func7, Try.ntmps7
    go_wp2_with fail
    refine (sanity_s _).mono ?_
    rintro e w1 ⟨rfl, hb⟩
    go_wp2_with fail
    go_ret
    exact ⟨rfl, bl1 hb⟩
  · have hb1 : decide ((2000 : Int) < (b.length : Int)) = false := by simp; omega
    obtain ⟨⟨n, i, e⟩, hd1⟩ : ∃ r, decInt b = r := ⟨_, rfl⟩
    obtain ⟨⟨s, j, f⟩, hd2⟩ : ∃ r, decBytes b = r := ⟨_, rfl⟩
    obtain ⟨⟨l, k, g⟩, hd3⟩ : ∃ r, decInts b = r := ⟨_, rfl⟩
    obtain ⟨⟨x, o, r⟩, hd4⟩ : ∃ r, decStrs b = r := ⟨_, rfl⟩
    obtain ⟨⟨d, m, h⟩, hd5⟩ : ∃ r, decDigs b = r := ⟨_, rfl⟩
    obtain ⟨⟨hn0, hn1⟩, hc1⟩ := can_int b n i e hd1
    obtain ⟨hs2, hc2⟩ := can_bytes b s j f hd2
    obtain ⟨hI, hs3, hc3⟩ := can_ints b l k g hd3
    obtain ⟨hs4, ht4, hc4⟩ := can_strs b x o r hd4
    obtain ⟨h16, hs5, hc5⟩ := can_digs b d m h hd5
    have HD1 := Lib.hid hd1
    have HD2 := Lib.hid hd2
    have HD3 := Lib.hid hd3
    have HD4 := Lib.hid hd4
    have HD5 := Lib.hid hd5
    have HC1 := Lib.hid hc1
    have HC2 := Lib.hid hc2
    have HC3 := Lib.hid hc3
    have HC4 := Lib.hid hc4
    have HC5 := Lib.hid hc5
    have HI := Lib.hid hI
    have H16 := Lib.hid h16
    clear hd1 hd2 hd3 hd4 hd5 hc1 hc2 hc3 hc4 hc5 hI h16
    have hl1 := encInt_le n
    have hl2 : (encBytes s).length ≤ 2009 := by have := encInt_le s.size; simp only [encBytes, List.length_append, bl_len]; omega
    have hl3 : (encInts l).length ≤ 18009 := by have := encInts_le l; omega
    have hl5 : (encDigs d).length ≤ 32009 := by have := encDigs_le d H16.out; omega
    go_enter Try.func7, Try.ntmps7
    go_wp2_with fail
    obtain ⟨W0, hW0⟩ : ∃ W, W = w.alloc (.cells #[.slice A b.length c] 28) := ⟨_, rfl⟩
    rw [← hW0]
    have hB : Below w.heap.size w W0 := by rw [hW0]; exact alloc_below w _
    have h0 : W0.cell? ⟨w.heap.size, 0, none⟩ = some (.slice A b.length c) := by rw [hW0]; exact new_cell w _ _
    clear hW0
    replace hS := hS.below hB
    refine (getint_s _ b A c hS hcap (by omega) _ _ _ HD1.out).mono ?_
    rintro e' w1 ⟨rfl, hb⟩
    replace hB := below_then hB hB.size hb
    replace h0 := cell_below h0 hb
    replace hS := hS.below hb
    clear hb
    go_wp2_with fail
    refine (getbytes_s _ b A c hS hcap (by omega) _ _ _ HD2.out).mono ?_
    rintro e' w2 ⟨rfl, hb⟩
    replace hB := below_then hB hB.size hb
    replace h0 := cell_below h0 hb
    replace hS := hS.below hb
    clear hb
    go_wp2_with fail
    refine (getints_s _ b A c hS hcap (by omega) _ _ _ HD3.out).mono ?_
    rintro e' w3 ⟨A3, c3, rfl, _, s3, hb⟩
    replace hB := below_then hB hB.size hb
    replace h0 := cell_below h0 hb
    replace hS := hS.below hb
    clear hb
    go_wp2_with fail
    refine (getstrs_s _ b A c hS hcap (by omega) _ _ _ HD4.out).mono ?_
    rintro e' w4 ⟨A4, c4, rfl, _, s4, hb⟩
    replace hB := below_then hB hB.size hb
    replace h0 := cell_below h0 hb
    replace hS := hS.below hb
    replace s3 := s3.below hb
    clear hb
    go_wp2_with fail
    refine (getdigs_s _ b A c hS hcap (by omega) _ _ _ HD5.out).mono ?_
    rintro e' w5 ⟨A5, c5, rfl, s5, _, hb⟩
    replace hB := below_then hB hB.size hb
    replace h0 := cell_below h0 hb
    replace hS := hS.below hb
    replace s3 := s3.below hb
    replace s4 := s4.below hb
    clear hb
    go_wp2_with fail
    refine (sanity_s _).mono ?_
    rintro e' w6 ⟨rfl, hb⟩
    replace hB := below_then hB hB.size hb
    replace h0 := cell_below h0 hb
    replace hS := hS.below hb
    replace s3 := s3.below hb
    replace s4 := s4.below hb
    replace s5 := s5.below hb
    clear hb
    go_wp2_with fail
    refine (int_s _ n hn0 hn1).mono ?_
    rintro e' w7 ⟨X, cx, rfl, _, sx, hb⟩
    replace hB := below_then hB hB.size hb
    replace h0 := cell_below h0 hb
    replace hS := hS.below hb
    replace s3 := s3.below hb
    replace s4 := s4.below hb
    replace s5 := s5.below hb
    clear hb
    go_wp2_with fail
    refine (is_any b A c w.heap.size _ h0 hS hcap (encInt n) X cx sx (by omega) _ _ HC1.out).mono ?_
    rintro e' w8 ⟨rfl, hb⟩
    replace hB := below_then hB hB.size hb
    replace h0 := cell_below h0 hb
    replace hS := hS.below hb
    replace s3 := s3.below hb
    replace s4 := s4.below hb
    replace s5 := s5.below hb
    clear hb
    clear sx
    go_wp2_with fail
    refine (bytes_s _ s (by omega)).mono ?_
    rintro e' w9 ⟨X, cx, rfl, _, sx, hb⟩
    replace hB := below_then hB hB.size hb
    replace h0 := cell_below h0 hb
    replace hS := hS.below hb
    replace s3 := s3.below hb
    replace s4 := s4.below hb
    replace s5 := s5.below hb
    clear hb
    go_wp2_with fail
    refine (is_any b A c w.heap.size _ h0 hS hcap (encBytes s) X cx sx (by omega) _ _ HC2.out).mono ?_
    rintro e' w10 ⟨rfl, hb⟩
    replace hB := below_then hB hB.size hb
    replace h0 := cell_below h0 hb
    replace hS := hS.below hb
    replace s3 := s3.below hb
    replace s4 := s4.below hb
    replace s5 := s5.below hb
    clear hb
    clear sx
    go_wp2_with fail
    refine (ints_s _ l A3 c3 s3 HI.out (by omega)).mono ?_
    rintro e' w11 ⟨X, cx, rfl, _, sx, hb⟩
    replace hB := below_then hB hB.size hb
    replace h0 := cell_below h0 hb
    replace hS := hS.below hb
    replace s3 := s3.below hb
    replace s4 := s4.below hb
    replace s5 := s5.below hb
    clear hb
    go_wp2_with fail
    refine (is_any b A c w.heap.size _ h0 hS hcap (encInts l) X cx sx (by omega) _ _ HC3.out).mono ?_
    rintro e' w12 ⟨rfl, hb⟩
    replace hB := below_then hB hB.size hb
    replace h0 := cell_below h0 hb
    replace hS := hS.below hb
    replace s3 := s3.below hb
    replace s4 := s4.below hb
    replace s5 := s5.below hb
    clear hb
    clear sx
    go_wp2_with fail
    refine (strs_s _ x A4 c4 s4 (by omega) (by omega)).mono ?_
    rintro e' w13 ⟨X, cx, rfl, _, sx, hb⟩
    replace hB := below_then hB hB.size hb
    replace h0 := cell_below h0 hb
    replace hS := hS.below hb
    replace s3 := s3.below hb
    replace s4 := s4.below hb
    replace s5 := s5.below hb
    clear hb
    go_wp2_with fail
    refine (is_any b A c w.heap.size _ h0 hS hcap (encStrs x) X cx sx (by omega) _ _ HC4.out).mono ?_
    rintro e' w14 ⟨rfl, hb⟩
    replace hB := below_then hB hB.size hb
    replace h0 := cell_below h0 hb
    replace hS := hS.below hb
    replace s3 := s3.below hb
    replace s4 := s4.below hb
    replace s5 := s5.below hb
    clear hb
    clear sx
    go_wp2_with fail
    refine (digs_s _ d A5 c5 s5 H16.out (by omega)).mono ?_
    rintro e' w15 ⟨X, cx, rfl, _, sx, hb⟩
    replace hB := below_then hB hB.size hb
    replace h0 := cell_below h0 hb
    replace hS := hS.below hb
    replace s3 := s3.below hb
    replace s4 := s4.below hb
    replace s5 := s5.below hb
    clear hb
    go_wp2_with fail
    refine (is_any b A c w.heap.size _ h0 hS hcap (encDigs d) X cx sx (by omega) _ _ HC5.out).mono ?_
    rintro e' w16 ⟨rfl, hb⟩
    replace hB := below_then hB hB.size hb
    replace h0 := cell_below h0 hb
    replace hS := hS.below hb
    replace s3 := s3.below hb
    replace s4 := s4.below hb
    replace s5 := s5.below hb
    clear hb
    clear sx
    go_wp2_with fail
    go_ret
    exact ⟨rfl, hB⟩
end Go.Proofs.Ytdmindmelaemjaa
