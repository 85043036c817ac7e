/- custodyref01.GetInts and GetStrings compute decInts and decStrs. -/
import Derived.Test.YtdmindmelaemjaaRBytes
namespace Go.Proofs.Ytdmindmelaemjaa
open Go.RowKit
set_option maxRecDepth 100000 in
set_option maxHeartbeats 1000000 in
theorem rgetints_s (b : List UInt8) (A : Option Addr) (c : Nat) (w : World) (hS : Seg w A (b.map fu8)) (hcap : b.length ≤ c) (hl : b.length ≤ 1048576) (l : List Int) (u er : Int) (hd : decInts b = (l, u, er)) :
    Calls Try.prog 29 #[.slice A b.length c] w (RetT fint l u er w) := by
  obtain ⟨⟨n, at_, e⟩, hc⟩ : ∃ r, decCnt b 1 = r := ⟨_, rfl⟩
  by_cases he : e = 0
  · subst he
    obtain ⟨N, U, rfl, rfl, h1, h2, h3, _⟩ := decCnt_ok b 1 n at_ (by decide) hc
    have hN : decN decInt b N U [] = (l, u, er) := by rw [decInts, decList, hc, if_neg (by simp)] at hd; simpa using hd
    have HN := Lib.hid hN
    rw [Nat.mul_one] at h3
    have HC := Lib.hid hc
    clear hc hd hN
    go_enter Try.func29, Try.ntmps29
    go_wp2_with fail
    refine (rcount_s b 1 (by decide) (by decide) A c w hS hcap hl _ _ _ HC.out).mono ?_
    rintro e w1 ⟨rfl, hb⟩
    have HS := Lib.hid hS
    clear hS
    go_wp2_with fail
    go_loopw [6, 8, 9] (fun at_ v i wr => ∃ k p : Nat, ∃ acc : List Int, k ≤ N ∧ p ≤ b.length ∧ acc.length = k ∧ at_ = .int .i64 p ∧ i = .int .i64 k ∧ Hid (decN decInt b N U [] = decN decInt b (N - k) p acc) ∧ OwnI wr w.heap.size v acc ∧ Below w.heap.size w wr) (fun _ _ i _ => N - (intOf i).toNat)
    case atStart => exact ⟨0, U, [], Nat.zero_le _, by omega, rfl, rfl, rfl, Lib.hid rfl, Own.nil _ _ _ _, hb⟩
    case round =>
      clear hb
      obtain ⟨k, p, acc, hk, hp, hacc, rfl, rfl, hdec, hown, hb⟩ := hrel
      have HACC := Lib.hid hacc
      clear hacc
      by_cases hlt : k < N
      · have hlt1 : decide ((k : Int) < (N : Int)) = true := by simp; omega
        have hlt2 : decide (k < N) = true := by simp; omega
        have hblen : (b.drop p).length = b.length - p := List.length_drop
        have HBL := Lib.hid hblen
        clear hblen
        have hSr := HS.out.below hb
        have HSR := Lib.hid hSr
        clear hSr
        obtain ⟨⟨x, u', e'⟩, hd1⟩ : ∃ r, decInt (b.drop p) = r := ⟨_, rfl⟩
        have HD1 := Lib.hid hd1
        by_cases he : e' = 0
        · subst he
          obtain ⟨U', rfl, _, _, hU, _, _⟩ := decInt_ok _ x u' hd1
          rw [HBL.out] at hU
          clear hd1
          go_wp2_with (refine op_cut p b.length HSR.out 28 5 _ _ _ _ _ rfl rfl Try.underlying28 siz_u8 rfl rfl ?_ (.inl rfl) (.inr ⟨rfl, rfl⟩) ?_ ?_ ?_; omega; omega; omega; intro A' hS2; rw [List.take_of_length_le (by rw [HBL.out]; exact Nat.le_refl _)] at hS2; have HS2 := Lib.hid hS2; clear hS2)
          have hcall := rgetint_s (b.drop p) A' (c - p) wr HS2.out (by rw [HBL.out]; omega) (by rw [HBL.out]; omega) _ _ _ HD1.out
          rw [HBL.out] at hcall
          refine hcall.mono ?_
          clear hcall
          rintro e w2 ⟨rfl, hb2⟩
          have hown2 := hown.below hb2
          have hB2 := below_then hb hb.size hb2
          clear hown hb
          go_wp2_with (at_builtin; refine app1 (f := fint) w.heap.size (.tmp 38) (.tmp 40) 22 3 _ 8 rfl rfl Try.underlying22 inf_int rfl (by decide) _ acc x rfl rfl rfl hown2 hB2 hB2.size ?_ ?_; (rw [HACC.out]; omega); intro v2 w3 hown3 hb3 hs3)
          go_roundw
          case rel => exact ⟨k + 1, p + U', acc ++ [x], hlt, by omega, by rw [List.length_append, HACC.out]; rfl, by go_num, by go_num, Lib.hid (by rw [hdec.out, show N - k = (N - (k + 1)) + 1 by omega, decN_step _ _ _ _ _ _ _ HD1.out]), hown3, hb3⟩
          case measure => simp only [intOf]; omega
        · have he2 : (e' != 0) = true := by simpa using he
          have hres := hdec.out
          rw [HN.out, show N - k = (N - (k + 1)) + 1 by omega, decN_err _ _ _ _ _ _ _ _ hd1 he] at hres
          simp only [Prod.mk.injEq] at hres
          obtain ⟨rfl, rfl, rfl⟩ := hres
          clear he hd1
          go_wp2_with (refine op_cut p b.length HSR.out 28 5 _ _ _ _ _ rfl rfl Try.underlying28 siz_u8 rfl rfl ?_ (.inl rfl) (.inr ⟨rfl, rfl⟩) ?_ ?_ ?_; omega; omega; omega; intro A' hS2; rw [List.take_of_length_le (by rw [HBL.out]; exact Nat.le_refl _)] at hS2; have HS2 := Lib.hid hS2; clear hS2)
          have hcall := rgetint_s (b.drop p) A' (c - p) wr HS2.out (by rw [HBL.out]; omega) (by rw [HBL.out]; omega) _ _ _ HD1.out
          rw [HBL.out] at hcall
          refine hcall.mono ?_
          clear hcall
          rintro e w2 ⟨rfl, hb2⟩
          go_wp2_with fail
          go_ret3
          exact ⟨none, 0, rfl, Nat.le_refl _, Seg.nil _ _, below_then hb hb.size hb2⟩
      · have hkn : k = N := by omega
        have hlt1 : decide ((k : Int) < (N : Int)) = false := by simp; omega
        have hlt2 : decide (k < N) = false := by simp; omega
        have hres := hdec.out
        rw [HN.out, hkn, Nat.sub_self] at hres
        simp only [decN, Prod.mk.injEq] at hres
        obtain ⟨rfl, rfl, rfl⟩ := hres
        obtain ⟨A', c', rfl, hcc, hSeg⟩ := hown.seg
        have HKN := Lib.hid hkn
        clear hkn
        go_wp2_with fail
        go_ret3
        exact ⟨A', c', rfl, hcc, hSeg, hb⟩
  · rw [decInts, decList, hc, if_pos he] at hd
    simp only [Prod.mk.injEq] at hd
    obtain ⟨rfl, rfl, rfl⟩ := hd
    have he2 : (e != 0) = true := by simpa using he
    have HC := Lib.hid hc
    clear he hc
    go_enter Try.func29, Try.ntmps29
    go_wp2_with fail
    refine (rcount_s b 1 (by decide) (by decide) A c w hS hcap hl _ _ _ HC.out).mono ?_
    rintro e w1 ⟨rfl, hb⟩
    go_wp2_with fail
    go_ret3
    exact ⟨none, 0, rfl, Nat.le_refl _, Seg.nil _ _, hb⟩
set_option maxRecDepth 100000 in
set_option maxHeartbeats 1000000 in
theorem rgetstrs_s (b : List UInt8) (A : Option Addr) (c : Nat) (w : World) (hS : Seg w A (b.map fu8)) (hcap : b.length ≤ c) (hl : b.length ≤ 1048576) (l : List ByteArray) (u er : Int) (hd : decStrs b = (l, u, er)) :
    Calls Try.prog 32 #[.slice A b.length c] w (RetT fstr l u er w) := by
  obtain ⟨⟨n, at_, e⟩, hc⟩ : ∃ r, decCnt b 1 = r := ⟨_, rfl⟩
  by_cases he : e = 0
  · subst he
    obtain ⟨N, U, rfl, rfl, h1, h2, h3, _⟩ := decCnt_ok b 1 n at_ (by decide) hc
    have hN : decN decBytes b N U [] = (l, u, er) := by rw [decStrs, decList, hc, if_neg (by simp)] at hd; simpa using hd
    have HN := Lib.hid hN
    rw [Nat.mul_one] at h3
    have HC := Lib.hid hc
    clear hc hd hN
    go_enter Try.func32, Try.ntmps32
    go_wp2_with fail
    refine (rcount_s b 1 (by decide) (by decide) A c w hS hcap hl _ _ _ HC.out).mono ?_
    rintro e w1 ⟨rfl, hb⟩
    have HS := Lib.hid hS
    clear hS
    go_wp2_with fail
    go_loopw [6, 8, 9] (fun at_ v i wr => ∃ k p : Nat, ∃ acc : List ByteArray, k ≤ N ∧ p ≤ b.length ∧ acc.length = k ∧ at_ = .int .i64 p ∧ i = .int .i64 k ∧ Hid (decN decBytes b N U [] = decN decBytes b (N - k) p acc) ∧ OwnS wr w.heap.size v acc ∧ Below w.heap.size w wr) (fun _ _ i _ => N - (intOf i).toNat)
    case atStart => exact ⟨0, U, [], Nat.zero_le _, by omega, rfl, rfl, rfl, Lib.hid rfl, Own.nil _ _ _ _, hb⟩
    case round =>
      clear hb
      obtain ⟨k, p, acc, hk, hp, hacc, rfl, rfl, hdec, hown, hb⟩ := hrel
      have HACC := Lib.hid hacc
      clear hacc
      by_cases hlt : k < N
      · have hlt1 : decide ((k : Int) < (N : Int)) = true := by simp; omega
        have hlt2 : decide (k < N) = true := by simp; omega
        have hblen : (b.drop p).length = b.length - p := List.length_drop
        have HBL := Lib.hid hblen
        clear hblen
        have hSr := HS.out.below hb
        have HSR := Lib.hid hSr
        clear hSr
        obtain ⟨⟨x, u', e'⟩, hd1⟩ : ∃ r, decBytes (b.drop p) = r := ⟨_, rfl⟩
        have HD1 := Lib.hid hd1
        by_cases he : e' = 0
        · subst he
          obtain ⟨U', rfl, hU⟩ := decBytes_ok _ x u' hd1
          rw [HBL.out] at hU
          clear hd1
          go_wp2_with (refine op_cut p b.length HSR.out 28 5 _ _ _ _ _ rfl rfl Try.underlying28 siz_u8 rfl rfl ?_ (.inl rfl) (.inr ⟨rfl, rfl⟩) ?_ ?_ ?_; omega; omega; omega; intro A' hS2; rw [List.take_of_length_le (by rw [HBL.out]; exact Nat.le_refl _)] at hS2; have HS2 := Lib.hid hS2; clear hS2)
          have hcall := rgetbytes_s (b.drop p) A' (c - p) wr HS2.out (by rw [HBL.out]; omega) (by rw [HBL.out]; omega) _ _ _ HD1.out
          rw [HBL.out] at hcall
          refine hcall.mono ?_
          clear hcall
          rintro e w2 ⟨rfl, hb2⟩
          have hown2 := hown.below hb2
          have hB2 := below_then hb hb.size hb2
          clear hown hb
          go_wp2_with (at_builtin; refine app1 (f := fstr) w.heap.size (.tmp 38) (.tmp 40) 23 9 _ 16 rfl rfl Try.underlying23 inf_str rfl (by decide) _ acc x rfl rfl rfl hown2 hB2 hB2.size ?_ ?_; (rw [HACC.out]; omega); intro v2 w3 hown3 hb3 hs3)
          go_roundw
          case rel => exact ⟨k + 1, p + U', acc ++ [x], hlt, by omega, by rw [List.length_append, HACC.out]; rfl, by go_num, by go_num, Lib.hid (by rw [hdec.out, show N - k = (N - (k + 1)) + 1 by omega, decN_step _ _ _ _ _ _ _ HD1.out]), hown3, hb3⟩
          case measure => simp only [intOf]; omega
        · have he2 : (e' != 0) = true := by simpa using he
          have hres := hdec.out
          rw [HN.out, show N - k = (N - (k + 1)) + 1 by omega, decN_err _ _ _ _ _ _ _ _ hd1 he] at hres
          simp only [Prod.mk.injEq] at hres
          obtain ⟨rfl, rfl, rfl⟩ := hres
          clear he hd1
          go_wp2_with (refine op_cut p b.length HSR.out 28 5 _ _ _ _ _ rfl rfl Try.underlying28 siz_u8 rfl rfl ?_ (.inl rfl) (.inr ⟨rfl, rfl⟩) ?_ ?_ ?_; omega; omega; omega; intro A' hS2; rw [List.take_of_length_le (by rw [HBL.out]; exact Nat.le_refl _)] at hS2; have HS2 := Lib.hid hS2; clear hS2)
          have hcall := rgetbytes_s (b.drop p) A' (c - p) wr HS2.out (by rw [HBL.out]; omega) (by rw [HBL.out]; omega) _ _ _ HD1.out
          rw [HBL.out] at hcall
          refine hcall.mono ?_
          clear hcall
          rintro e w2 ⟨rfl, hb2⟩
          go_wp2_with fail
          go_ret3
          exact ⟨none, 0, rfl, Nat.le_refl _, Seg.nil _ _, below_then hb hb.size hb2⟩
      · have hkn : k = N := by omega
        have hlt1 : decide ((k : Int) < (N : Int)) = false := by simp; omega
        have hlt2 : decide (k < N) = false := by simp; omega
        have hres := hdec.out
        rw [HN.out, hkn, Nat.sub_self] at hres
        simp only [decN, Prod.mk.injEq] at hres
        obtain ⟨rfl, rfl, rfl⟩ := hres
        obtain ⟨A', c', rfl, hcc, hSeg⟩ := hown.seg
        have HKN := Lib.hid hkn
        clear hkn
        go_wp2_with fail
        go_ret3
        exact ⟨A', c', rfl, hcc, hSeg, hb⟩
  · rw [decStrs, decList, hc, if_pos he] at hd
    simp only [Prod.mk.injEq] at hd
    obtain ⟨rfl, rfl, rfl⟩ := hd
    have he2 : (e != 0) = true := by simpa using he
    have HC := Lib.hid hc
    clear he hc
    go_enter Try.func32, Try.ntmps32
    go_wp2_with fail
    refine (rcount_s b 1 (by decide) (by decide) A c w hS hcap hl _ _ _ HC.out).mono ?_
    rintro e w1 ⟨rfl, hb⟩
    go_wp2_with fail
    go_ret3
    exact ⟨none, 0, rfl, Nat.le_refl _, Seg.nil _ _, hb⟩
end Go.Proofs.Ytdmindmelaemjaa
