/- custodylaw01.WireListRoundTrip returns true whenever its arguments are of moderate size; nothing that was there turns. -/
import Derived.Test.YtdmindmelaemjaaLTrip
namespace Go.Proofs.Ytdmindmelaemjaa
open Go.RowKit
theorem flatten_len16 (d : List (List UInt8)) (h : ∀ e ∈ d, e.length = 16) : d.flatten.length = 16 * d.length := by have := flatten16 d h; omega
theorem tot_mem (x : List ByteArray) (s : ByteArray) (h : s ∈ x) : s.size ≤ tot x := by
  have key : ∀ x : List ByteArray, s ∈ x → s.size ≤ (x.map ByteArray.size).sum := by
    intro x
    induction x with
    | nil => intro h; cases h
    | cons a x ih =>
      intro h
      rw [List.map_cons, List.sum_cons]
      rcases List.mem_cons.1 h with rfl | h
      · omega
      · have := ih h; omega
  have := key x h
  unfold tot; omega
set_option maxRecDepth 100000 in
set_option maxHeartbeats 4000000 in
theorem walk_list (s : ByteArray) (hs : s.size ≤ 1048576)
    (l : List Int) (A1 : Option Addr) (c1 : Nat) (x : List ByteArray) (A2 : Option Addr) (c2 : Nat) (d : List (List UInt8)) (A3 : Option Addr) (c3 : Nat) (t : List UInt8) (A4 : Option Addr) (c4 : Nat) (w : World)
    (h1 : Seg w A1 (l.map fint)) (hI : InI l) (hl : l.length ≤ 1048576) (h2 : Seg w A2 (x.map fstr)) (hx : tot x ≤ 1048576) (h3 : Seg w A3 (d.flatten.map fu8)) (h16 : ∀ e ∈ d, e.length = 16) (hd : d.length ≤ 1048576)
    (h4 : Seg w A4 (t.map fu8)) (ht : t.length ≤ 1048576) :
    Calls Try.prog 8 #[.string s, .slice A1 l.length c1, .slice A2 x.length c2, .slice A3 d.length c3, .slice A4 t.length c4] w (RetV (.bool true) w) := by
  have HI := Lib.hid hI
  have H16 := Lib.hid h16
  clear hI h16
  have hxl : x.length ≤ 1048576 := Nat.le_trans (by unfold tot; omega) hx
  by_cases hbig : 2000 < s.size + l.length + d.length + t.length
  · have hb1 : decide ((2000 : Int) < (s.size : Int) + (l.length : Int) + (d.length : Int) + (t.length : Int)) = true := by simp; omega
    go_enter Try.func8, Try.ntmps8
    go_wp2_with fail
    refine (sanity_s _).mono ?_
    rintro e w1 ⟨rfl, hb⟩
    go_wp2_with fail
    go_ret
    exact ⟨rfl, hb⟩
  have hb1 : decide ((2000 : Int) < (s.size : Int) + (l.length : Int) + (d.length : Int) + (t.length : Int)) = false := by simp; omega
  have hfew := few_any x A2 c2 w h2 hx
  by_cases htt : tot x ≤ 2000
  · rw [decide_eq_true htt] at hfew
    have HF := Lib.hid hfew
    clear hfew
    have hl1 : (encBytes s).length ≤ 2009 := by have := encInt_le s.size; simp only [encBytes, List.length_append, bl_len]; omega
    have hl2 : (encInts l).length ≤ 18009 := by have := encInts_le l; omega
    have hl3 : (encDigs d).length ≤ 32009 := by have := encDigs_le d H16.out; omega
    have hl4 : (encStrs x).length ≤ 22009 := by have := encStrs_le x; have : x.length ≤ tot x := (by unfold tot; omega); omega
    have hd1 := bytes_enc s (by omega) t
    have hd2 := ints_enc l (by omega) HI.out t
    have hd3 := digs_enc d H16.out (by omega) t
    have hd4 := strs_enc x (by omega) (fun y hy => by have := tot_mem x y hy; omega) t
    have HD1 := Lib.hid hd1
    have HD2 := Lib.hid hd2
    have HD3 := Lib.hid hd3
    have HD4 := Lib.hid hd4
    clear hd1 hd2 hd3 hd4
    go_enter Try.func8, Try.ntmps8
    go_wp2_with fail
    refine HF.out.mono ?_
    rintro e w1 ⟨rfl, hB⟩
    replace h1 := h1.below hB
    replace h2 := h2.below hB
    replace h3 := h3.below hB
    replace h4 := h4.below hB
    go_wp2_with fail
    refine (bytes_s _ s (by omega)).mono ?_
    rintro e w2 ⟨Aa, ca, rfl, hca, sa, hb⟩
    replace hB := below_then hB hB.size hb
    replace h1 := h1.below hb
    replace h2 := h2.below hb
    replace h3 := h3.below hb
    replace h4 := h4.below hb
    clear hb
    go_wp2_with fail
    refine (ints_s _ l A1 c1 h1 HI.out (by omega)).mono ?_
    rintro e w3 ⟨Ab, cb, rfl, hcb, sb, hb⟩
    replace hB := below_then hB hB.size hb
    replace h1 := h1.below hb
    replace h2 := h2.below hb
    replace h3 := h3.below hb
    replace h4 := h4.below hb
    replace sa := sa.below hb
    clear hb
    go_wp2_with fail
    refine (digs_s _ d A3 c3 h3 H16.out (by omega)).mono ?_
    rintro e w4 ⟨Ac, cc, rfl, hcc, sc, hb⟩
    replace hB := below_then hB hB.size hb
    replace h1 := h1.below hb
    replace h2 := h2.below hb
    replace h3 := h3.below hb
    replace h4 := h4.below hb
    replace sa := sa.below hb
    replace sb := sb.below hb
    clear hb
    go_wp2_with fail
    refine (strs_s _ x A2 c2 h2 (by omega) (by omega)).mono ?_
    rintro e w5 ⟨Ao, co, rfl, hco, so, hb⟩
    replace hB := below_then hB hB.size hb
    replace h1 := h1.below hb
    replace h2 := h2.below hb
    replace h3 := h3.below hb
    replace h4 := h4.below hb
    replace sa := sa.below hb
    replace sb := sb.below hb
    replace sc := sc.below hb
    clear hb
    go_wp2_with (first
      | (refine op_clip sa 28 5 _ _ _ _ _ rfl rfl Try.underlying28 siz_u8 rfl rfl rfl hca ?_; intro A' sx)
      | (at_builtin; refine app_full (f := fu8) sx rfl h4 rfl _ _ 28 5 _ 1 rfl rfl Try.underlying28 inf_u8 rfl (by decide) rfl rfl ?_ ?_; omega; intro A2' c2' w6 hcx sy hb))
    replace hB := below_then hB hB.size hb
    replace h1 := h1.below hb
    replace h2 := h2.below hb
    replace h3 := h3.below hb
    replace h4 := h4.below hb
    replace sa := sa.below hb
    replace sb := sb.below hb
    replace sc := sc.below hb
    replace so := so.below hb
    clear hb
    replace sy : Seg w6 A2' ((encBytes s ++ t).map fu8) := sy
    have hcall := getbytes_s w6 (encBytes s ++ t) A2' c2' sy (by rw [List.length_append]; exact hcx) (by rw [List.length_append]; omega) _ _ _ HD1.out
    rw [List.length_append] at hcall
    refine hcall.mono ?_
    clear hcall
    rintro e w7 ⟨rfl, hb⟩
    clear sx sy
    replace hB := below_then hB hB.size hb
    replace h1 := h1.below hb
    replace h2 := h2.below hb
    replace h3 := h3.below hb
    replace h4 := h4.below hb
    replace sa := sa.below hb
    replace sb := sb.below hb
    replace sc := sc.below hb
    replace so := so.below hb
    clear hb
    go_wp2_with (first
      | (refine op_clip sb 28 5 _ _ _ _ _ rfl rfl Try.underlying28 siz_u8 rfl rfl rfl hcb ?_; intro A' sx)
      | (at_builtin; refine app_full (f := fu8) sx rfl h4 rfl _ _ 28 5 _ 1 rfl rfl Try.underlying28 inf_u8 rfl (by decide) rfl rfl ?_ ?_; omega; intro A2' c2' w8 hcx sy hb))
    replace hB := below_then hB hB.size hb
    replace h1 := h1.below hb
    replace h2 := h2.below hb
    replace h3 := h3.below hb
    replace h4 := h4.below hb
    replace sa := sa.below hb
    replace sb := sb.below hb
    replace sc := sc.below hb
    replace so := so.below hb
    clear hb
    replace sy : Seg w8 A2' ((encInts l ++ t).map fu8) := sy
    have hcall := getints_s w8 (encInts l ++ t) A2' c2' sy (by rw [List.length_append]; exact hcx) (by rw [List.length_append]; omega) _ _ _ HD2.out
    rw [List.length_append] at hcall
    refine hcall.mono ?_
    clear hcall
    rintro e w9 ⟨A5, c5, rfl, hc5, s5, hb⟩
    clear sx sy
    replace hB := below_then hB hB.size hb
    replace h1 := h1.below hb
    replace h2 := h2.below hb
    replace h3 := h3.below hb
    replace h4 := h4.below hb
    replace sa := sa.below hb
    replace sb := sb.below hb
    replace sc := sc.below hb
    replace so := so.below hb
    clear hb
    go_wp2_with (first
      | (refine op_clip sc 28 5 _ _ _ _ _ rfl rfl Try.underlying28 siz_u8 rfl rfl rfl hcc ?_; intro A' sx)
      | (at_builtin; refine app_full (f := fu8) sx rfl h4 rfl _ _ 28 5 _ 1 rfl rfl Try.underlying28 inf_u8 rfl (by decide) rfl rfl ?_ ?_; omega; intro A2' c2' w10 hcx sy hb))
    replace hB := below_then hB hB.size hb
    replace h1 := h1.below hb
    replace h2 := h2.below hb
    replace h3 := h3.below hb
    replace h4 := h4.below hb
    replace sa := sa.below hb
    replace sb := sb.below hb
    replace sc := sc.below hb
    replace so := so.below hb
    replace s5 := s5.below hb
    clear hb
    replace sy : Seg w10 A2' ((encDigs d ++ t).map fu8) := sy
    have hcall := getdigs_s w10 (encDigs d ++ t) A2' c2' sy (by rw [List.length_append]; exact hcx) (by rw [List.length_append]; omega) _ _ _ HD3.out
    rw [List.length_append] at hcall
    refine hcall.mono ?_
    clear hcall
    rintro e w11 ⟨A6, c6, rfl, s6, hb16, hb⟩
    clear sx sy
    replace hB := below_then hB hB.size hb
    replace h1 := h1.below hb
    replace h2 := h2.below hb
    replace h3 := h3.below hb
    replace h4 := h4.below hb
    replace sa := sa.below hb
    replace sb := sb.below hb
    replace sc := sc.below hb
    replace so := so.below hb
    replace s5 := s5.below hb
    clear hb
    go_wp2_with (first
      | (refine op_clip so 28 5 _ _ _ _ _ rfl rfl Try.underlying28 siz_u8 rfl rfl rfl hco ?_; intro A' sx)
      | (at_builtin; refine app_full (f := fu8) sx rfl h4 rfl _ _ 28 5 _ 1 rfl rfl Try.underlying28 inf_u8 rfl (by decide) rfl rfl ?_ ?_; omega; intro A2' c2' w12 hcx sy hb))
    replace hB := below_then hB hB.size hb
    replace h1 := h1.below hb
    replace h2 := h2.below hb
    replace h3 := h3.below hb
    replace h4 := h4.below hb
    replace sa := sa.below hb
    replace sb := sb.below hb
    replace sc := sc.below hb
    replace so := so.below hb
    replace s5 := s5.below hb
    replace s6 := s6.below hb
    clear hb
    replace sy : Seg w12 A2' ((encStrs x ++ t).map fu8) := sy
    have hcall := getstrs_s w12 (encStrs x ++ t) A2' c2' sy (by rw [List.length_append]; exact hcx) (by rw [List.length_append]; omega) _ _ _ HD4.out
    rw [List.length_append] at hcall
    refine hcall.mono ?_
    clear hcall
    rintro e w13 ⟨A7, c7, rfl, hc7, s7, hb⟩
    clear sx sy
    replace hB := below_then hB hB.size hb
    replace h1 := h1.below hb
    replace h2 := h2.below hb
    replace h3 := h3.below hb
    replace h4 := h4.below hb
    replace sa := sa.below hb
    replace sb := sb.below hb
    replace sc := sc.below hb
    replace so := so.below hb
    replace s5 := s5.below hb
    replace s6 := s6.below hb
    clear hb
    go_wp2_with fail
    refine (sanity_s _).mono ?_
    rintro e w14 ⟨rfl, hb⟩
    replace hB := below_then hB hB.size hb
    replace h1 := h1.below hb
    replace h2 := h2.below hb
    replace h3 := h3.below hb
    replace h4 := h4.below hb
    replace sa := sa.below hb
    replace sb := sb.below hb
    replace sc := sc.below hb
    replace so := so.below hb
    replace s5 := s5.below hb
    replace s6 := s6.below hb
    replace s7 := s7.below hb
    clear hb
    go_wp2_with fail
    refine (sames_t _ x x A7 A2 c7 c2 s7 h2 (by omega) rfl).mono ?_
    rintro e w15 ⟨rfl, hb⟩
    replace hB := below_then hB hB.size hb
    replace h1 := h1.below hb
    replace h2 := h2.below hb
    replace h3 := h3.below hb
    replace h4 := h4.below hb
    replace sa := sa.below hb
    replace sb := sb.below hb
    replace sc := sc.below hb
    replace so := so.below hb
    replace s5 := s5.below hb
    replace s6 := s6.below hb
    replace s7 := s7.below hb
    clear hb
    go_wp2_with fail
    refine (samei_t _ l l A5 A1 c5 c1 s5 h1 (by omega) rfl).mono ?_
    rintro e w16 ⟨rfl, hb⟩
    replace hB := below_then hB hB.size hb
    replace h1 := h1.below hb
    replace h2 := h2.below hb
    replace h3 := h3.below hb
    replace h4 := h4.below hb
    replace sa := sa.below hb
    replace sb := sb.below hb
    replace sc := sc.below hb
    replace so := so.below hb
    replace s5 := s5.below hb
    replace s6 := s6.below hb
    replace s7 := s7.below hb
    clear hb
    go_wp2_with fail
    refine (samed_t _ d d A6 A3 c6 c3 s6 h3 H16.out H16.out (by omega) rfl).mono ?_
    rintro e w17 ⟨rfl, hb⟩
    replace hB := below_then hB hB.size hb
    replace h1 := h1.below hb
    replace h2 := h2.below hb
    replace h3 := h3.below hb
    replace h4 := h4.below hb
    replace sa := sa.below hb
    replace sb := sb.below hb
    replace sc := sc.below hb
    replace so := so.below hb
    replace s5 := s5.below hb
    replace s6 := s6.below hb
    replace s7 := s7.below hb
    clear hb
    go_wp2_with fail
    go_ret
    exact ⟨rfl, hB⟩
  · rw [decide_eq_false htt] at hfew
    have HF := Lib.hid hfew
    clear hfew
    go_enter Try.func8, Try.ntmps8
    go_wp2_with fail
    refine HF.out.mono ?_
    rintro e w1 ⟨rfl, hB⟩
    go_wp2_with fail
    refine (sanity_s _).mono ?_
    rintro e w2 ⟨rfl, hb⟩
    go_wp2_with fail
    go_ret
    exact ⟨rfl, below_then hB hB.size hb⟩
end Go.Proofs.Ytdmindmelaemjaa
