import Derived.Test.YtdmindmelaemjaaWCnt
namespace Go.Proofs.Ytdmindmelaemjaa
open Go.RowKit
theorem decBytes_ok (b : List UInt8) (s : ByteArray) (u : Int) (h : decBytes b = (s, u, 0)) : ∃ U : Nat, u = U ∧ U ≤ b.length := by
  obtain ⟨⟨n, p, e⟩, hd⟩ : ∃ r, decCnt b 1 = r := ⟨_, rfl⟩
  simp only [decBytes, hd] at h
  by_cases he : e = 0
  · subst he
    obtain ⟨N, U, rfl, rfl, _, _, h3, _⟩ := decCnt_ok b 1 n p (by decide) hd
    simp at h
    exact ⟨U + N, by omega, by omega⟩
  · simp [he] at h
theorem decN_step {α : Type} (dec : List UInt8 → α × Int × Int) (b : List UInt8) (k p : Nat) (acc : List α) (x : α) (U : Nat) (h : dec (b.drop p) = (x, (U : Int), 0)) : decN dec b (k + 1) p acc = decN dec b k (p + U) (acc ++ [x]) := by
  simp [decN, h]
theorem decN_err {α : Type} (dec : List UInt8 → α × Int × Int) (b : List UInt8) (k p : Nat) (acc : List α) (x : α) (u e : Int) (h : dec (b.drop p) = (x, u, e)) (he : e ≠ 0) : decN dec b (k + 1) p acc = ([], 0, e) := by
  simp [decN, h, he]
set_option maxRecDepth 100000 in
set_option maxHeartbeats 400000 in
theorem getstrs_any (b : List UInt8) (A : Option Addr) (c : Nat) (w : World) (hS : Seg w A (b.map fu8)) (hcap : b.length ≤ c) (hl : b.length ≤ 1048576) :
    Calls Try.prog 31 #[.slice A b.length c] w fun e w' => ∃ v l u er, e = .returned (.tuple #[v, .int .i64 u, .int .i64 er]) ∧ decStrs b = (l, u, er) ∧ OwnS w' w.heap.size v l ∧ Below w.heap.size w w' := by
  go_enter Try.func31, Try.ntmps31
  go_wp2_with fail
  refine (count_any b 1 (by decide) A c w hS hcap (by omega) (by decide)).mono ?_
  rintro e w1 ⟨n, u, er, rfl, hd, rfl⟩
  rcases hd with ⟨he, hd⟩ | ⟨rfl, hd⟩
  · have he2 : (er != 0) = true := by simpa using he
    have HD := Lib.hid hd
    have HE := Lib.hid he
    clear hd he
    go_wp2_with fail
    go_ret3
    exact ⟨_, [], _, _, rfl, by rw [decStrs, decList, HD.out, if_pos HE.out], Own.nil _ _ _ _, Below.refl _ _⟩
  · obtain ⟨N, U, rfl, rfl, h1, h2, h3, _⟩ := decCnt_ok b 1 n u (by decide) hd
    have HD := Lib.hid hd
    have HS := Lib.hid hS
    clear hd hS
    rw [Nat.mul_one] at h3
    go_wp2_with fail
    go_loopw [6, 8, 22] (fun at_ v i wr => ∃ k p : Nat, ∃ acc : List ByteArray, k ≤ N ∧ p ≤ b.length ∧ acc.length = k ∧ at_ = .int .i64 p ∧ i = .int .i64 k ∧ Hid (decN decBytes b N U [] = decN decBytes b (N - k) p acc) ∧ OwnS wr w.heap.size v acc ∧ Below w.heap.size w wr) (fun _ _ i _ => N - (intOf i).toNat)
    case atStart => exact ⟨0, U, [], Nat.zero_le _, by omega, rfl, rfl, rfl, rfl, Own.nil _ _ _ _, Below.refl _ _⟩
    case round =>
      obtain ⟨k, p, acc, hk, hp, hacc, rfl, rfl, hdec, hown, hb⟩ := hrel
      have HACC := Lib.hid hacc
      clear hacc
      by_cases hlt : k < N
      · have hlt1 : decide ((k : Int) < (N : Int)) = true := by simp; omega
        have hlt2 : decide (k < N) = true := by simp; omega
        have hblen : (b.drop p).length = b.length - p := List.length_drop
        have HBL := Lib.hid hblen
        clear hblen
        have hSr := HS.out.below hb
        have HSR := Lib.hid hSr
        clear hSr
        go_wp2_with (refine op_cut p b.length HSR.out 28 5 _ _ (.tmp 25) _ _ rfl rfl Try.underlying28 siz_u8 rfl rfl ?_ (.inl rfl) (.inr ⟨rfl, rfl⟩) ?_ ?_ ?_; omega; omega; omega; intro A' hS2; rw [List.take_of_length_le (by rw [HBL.out]; exact Nat.le_refl _)] at hS2; have HS2 := Lib.hid hS2; clear hS2)
        have hcall := getbytes_any (b.drop p) A' (c - p) wr HS2.out (by rw [HBL.out]; omega) (by rw [HBL.out]; omega)
        rw [HBL.out] at hcall
        refine hcall.mono ?_
        clear hcall
        rintro e w1 ⟨s, u, er, rfl, hd1, rfl⟩
        by_cases he : er = 0
        · subst he
          obtain ⟨U', rfl, hU⟩ := decBytes_ok _ s u hd1
          rw [HBL.out] at hU
          have HD1 := Lib.hid hd1
          clear hd1
          go_wp2_with (at_builtin; refine app1 (f := fstr) w.heap.size (.tmp 35) (.tmp 37) 23 9 _ 16 rfl rfl Try.underlying23 inf_str rfl (by decide) _ acc s rfl rfl rfl hown hb hb.size ?_ ?_; (rw [HACC.out]; omega); intro v2 w2 hown2 hb2 hs2)
          go_roundw
          case rel => exact ⟨k + 1, p + U', acc ++ [s], hlt, by omega, by rw [List.length_append, HACC.out]; rfl, by go_num, by go_num, by show _ = _; rw [hdec.out, show N - k = (N - (k + 1)) + 1 by omega, decN_step _ _ _ _ _ _ _ HD1.out], hown2, hb2⟩
          case measure => simp only [intOf]; omega
        · have he2 : (er != 0) = true := by simpa using he
          have HE := Lib.hid he
          have HD1 := Lib.hid hd1
          clear he hd1
          go_wp2_with fail
          go_ret3
          refine ⟨_, [], _, _, rfl, ?_, Own.nil _ _ _ _, hb⟩
          rw [decStrs, decList, HD.out, if_neg (by simp)]
          have := hdec.out
          rw [show N - k = (N - (k + 1)) + 1 by omega, decN_err _ _ _ _ _ _ _ _ HD1.out HE.out] at this
          simpa using this
      · have hkn : k = N := by omega
        have hlt1 : decide ((k : Int) < (N : Int)) = false := by simp; omega
        have hlt2 : decide (k < N) = false := by simp; omega
        have HKN := Lib.hid hkn
        clear hkn
        go_wp2_with fail
        go_ret3
        refine ⟨_, acc, _, _, rfl, ?_, hown, hb⟩
        rw [decStrs, decList, HD.out, if_neg (by simp)]
        have := hdec.out
        rw [HKN.out, Nat.sub_self] at this
        simpa [decN] using this
end Go.Proofs.Ytdmindmelaemjaa
