import Derived.Test.YtdmindmelaemjaaWList
namespace Go.Proofs.Ytdmindmelaemjaa
open Go.RowKit
set_option maxRecDepth 100000 in
set_option maxHeartbeats 400000 in
theorem reader1_any (b : List UInt8) (A : Option Addr) (c p a0 a1 : Nat) (w : World) (h0 : w.cell? ⟨a0, 0, none⟩ = some (.slice A b.length c)) (h1 : w.cell? ⟨a1, 0, none⟩ = some (.int .i64 p)) (hfz : w.frozen? ⟨a1, 0, none⟩ = false)
    (hS : Seg w A (b.map fu8)) (hcap : b.length ≤ c) (hl : b.length ≤ 1048576) (hp : p ≤ b.length) :
    Calls Try.prog 41 #[.pointer (some ⟨a0, 0, none⟩), .pointer (some ⟨a1, 0, none⟩)] w fun e w' => ∃ n u er, e = .returned (.tuple #[.int .i64 n, .int .i64 (p + u), .int .i64 er]) ∧ decInt (b.drop p) = (n, u, er) ∧ ∃ m, w' = (w.setCell ⟨a1, 0, none⟩ (.int .i64 (p + u))).drewN m := by
  have hblen : (b.drop p).length = b.length - p := List.length_drop
  have HBL := Lib.hid hblen
  have HS := Lib.hid hS
  clear hblen hS
  go_enter Try.func41, Try.ntmps41
  go_wp2_with (refine op_cut p b.length HS.out 28 5 _ _ (.tmp 9) _ _ rfl rfl Try.underlying28 siz_u8 rfl rfl ?_ (.inl rfl) (.inr ⟨rfl, rfl⟩) ?_ ?_ ?_; omega; omega; omega; intro A' hS2; rw [List.take_of_length_le (by rw [HBL.out]; exact Nat.le_refl _)] at hS2; have HS2 := Lib.hid hS2; clear hS2)
  have hcall := getint_any (b.drop p) A' (c - p) w HS2.out (by rw [HBL.out]; omega) (by rw [HBL.out]; omega)
  rw [HBL.out] at hcall
  refine hcall.mono ?_
  clear hcall
  rintro e w1 ⟨n, u, er, rfl, hd, rfl⟩
  have hu : 0 ≤ u ∧ u ≤ 9 := decInt_used _ _ _ _ hd
  have hu0 := hu.1
  have hu1 := hu.2
  have HD := Lib.hid hd
  clear hd hu
  go_wp2_with fail
  go_quiet (fail)
  go_wp2_with fail
  go_ret3
  exact ⟨_, _, _, rfl, HD.out, _, rfl⟩
set_option maxRecDepth 100000 in
set_option maxHeartbeats 400000 in
theorem reader_any (A : Option Addr) (n c : Nat) (p : Int) (w : World) :
    Calls Try.prog 40 #[.slice A n c, .int .i64 p] w fun e w' => e = .returned (.func (.func 41) #[] #[.pointer (some ⟨w.heap.size, 0, none⟩), .pointer (some ⟨w.heap.size + 1, 0, none⟩)]) ∧
      w'.cell? ⟨w.heap.size, 0, none⟩ = some (.slice A n c) ∧ w'.cell? ⟨w.heap.size + 1, 0, none⟩ = some (.int .i64 p) ∧ w'.frozen? ⟨w.heap.size + 1, 0, none⟩ = false ∧ w'.heap.size = w.heap.size + 2 ∧ Below w.heap.size w w' := by
  have h1 := new_cell w (.slice A n c) 28
  have h2 := alloc_below w (.cells #[.slice A n c] 28)
  have h3 := alloc_size w (.cells #[.slice A n c] 28)
  have h4 := new_cell (w.alloc (.cells #[.slice A n c] 28)) (.int .i64 p) 3
  have h5 := new_free (w.alloc (.cells #[.slice A n c] 28)) (.int .i64 p) 3
  have h6 := alloc_below (w.alloc (.cells #[.slice A n c] 28)) (.cells #[.int .i64 p] 3)
  have h7 := alloc_size (w.alloc (.cells #[.slice A n c] 28)) (.cells #[.int .i64 p] 3)
  have h8 := cell_below h1 h6
  have h9 := below_then h2 (by omega) h6
  rw [h3] at h4 h5 h7
  have H := Lib.hid (And.intro h8 (And.intro h4 (And.intro h5 (And.intro h7 h9))))
  clear h1 h2 h3 h4 h5 h6 h7 h8 h9
  go_enter Try.func40, Try.ntmps40
  go_wp2
  go_ret
  exact ⟨rfl, H.out⟩
set_option maxRecDepth 100000 in
set_option maxHeartbeats 400000 in
theorem getints_any (b : List UInt8) (A : Option Addr) (c : Nat) (w : World) (hS : Seg w A (b.map fu8)) (hcap : b.length ≤ c) (hl : b.length ≤ 1048576) :
    Calls Try.prog 28 #[.slice A b.length c] w fun e w' => ∃ v l u er, e = .returned (.tuple #[v, .int .i64 u, .int .i64 er]) ∧ decInts b = (l, u, er) ∧ OwnI w' w.heap.size v l ∧ Below w.heap.size w w' := by
  go_enter Try.func28, Try.ntmps28
  go_wp2_with fail
  refine (count_any b 1 (by decide) A c w hS hcap (by omega) (by decide)).mono ?_
  rintro e w1 ⟨n, u, er, rfl, hd, rfl⟩
  rcases hd with ⟨he, hd⟩ | ⟨rfl, hd⟩
  · have he2 : (er != 0) = true := by simpa using he
    have HD := Lib.hid hd
    have HE := Lib.hid he
    clear hd he
    go_wp2_with fail
    go_ret3
    exact ⟨_, [], _, _, rfl, by rw [decInts, decList, HD.out, if_pos HE.out], Own.nil _ _ _ _, Below.refl _ _⟩
  · obtain ⟨N, U, rfl, rfl, h1, h2, h3, _⟩ := decCnt_ok b 1 n u (by decide) hd
    have HD := Lib.hid hd
    have HS := Lib.hid hS
    clear hd hS
    rw [Nat.mul_one] at h3
    go_wp2_with (go_at_call 40; refine (reader_any _ _ _ _ _).mono ?_; rintro e W ⟨rfl, hWc, hWd, hWf, hWs, hWb⟩)
    go_loopw [6, 9, 26] (fun at_ v i wr => ∃ k p : Nat, ∃ acc : List Int, k ≤ N ∧ p ≤ b.length ∧ acc.length = k ∧ at_ = .int .i64 p ∧ i = .int .i64 k ∧ Hid (decN decInt b N U [] = decN decInt b (N - k) p acc) ∧
      wr.cell? ⟨w.heap.size, 0, none⟩ = some (.slice A b.length c) ∧ wr.cell? ⟨w.heap.size + 1, 0, none⟩ = some (.int .i64 (p : Int)) ∧ wr.frozen? ⟨w.heap.size + 1, 0, none⟩ = false ∧ W.heap.size ≤ wr.heap.size ∧ OwnI wr W.heap.size v acc ∧ Below w.heap.size w wr) (fun _ _ i _ => N - (intOf i).toNat)
    case atStart => exact ⟨0, U, [], Nat.zero_le _, by omega, rfl, rfl, rfl, rfl, hWc, hWd, hWf, Nat.le_refl _, Own.nil _ _ _ _, hWb⟩
    case round =>
      clear hWc hWd hWf hWb
      have hle : w.heap.size ≤ W.heap.size := by omega
      obtain ⟨k, p, acc, hk, hp, hacc, rfl, rfl, hdec, hc0, hc1, hfz, hsz, hown, hb⟩ := hrel
      have HACC := Lib.hid hacc
      clear hacc
      by_cases hlt : k < N
      · have hlt1 : decide ((k : Int) < (N : Int)) = true := by simp; omega
        have hlt2 : decide (k < N) = true := by simp; omega
        have hSr := HS.out.below hb
        have HSR := Lib.hid hSr
        have HC0 := Lib.hid hc0
        have HC1 := Lib.hid hc1
        have HFZ := Lib.hid hfz
        have HWS := Lib.hid hWs
        clear hSr hc0 hc1 hfz hWs
        go_wp2_with fail
        refine (reader1_any b A c p w.heap.size (w.heap.size + 1) wr HC0.out HC1.out HFZ.out HSR.out hcap hl hp).mono ?_
        rintro e w1 ⟨n, u, er, rfl, hd1, m, rfl⟩
        obtain ⟨w2, hw2⟩ : ∃ w2 : World, w2 = (wr.setCell ⟨w.heap.size + 1, 0, none⟩ (.int .i64 ((p : Int) + u))).drewN m := ⟨_, rfl⟩
        rw [← hw2]
        have hc0' : w2.cell? ⟨w.heap.size, 0, none⟩ = some (.slice A b.length c) := by rw [hw2, World.cell?_drewN, World.cell?_setCell_other _ _ _ _ (by simp)]; exact HC0.out
        have hc1' : w2.cell? ⟨w.heap.size + 1, 0, none⟩ = some (.int .i64 ((p : Int) + u)) := by rw [hw2, World.cell?_drewN]; exact World.cell?_setCell_same _ _ _ HC1.out
        have hfz' : w2.frozen? ⟨w.heap.size + 1, 0, none⟩ = false := by rw [hw2, World.frozen?_drewN, World.frozen?_setCell]; exact HFZ.out
        have hsz' : wr.heap.size = w2.heap.size := by rw [hw2]; simp
        have hown' := (hown.set (a := ⟨w.heap.size + 1, 0, none⟩) (by have := HWS.out; show w.heap.size + 1 < W.heap.size; omega) (.int .i64 ((p : Int) + u))).heap (w1 := w2) (by rw [hw2]; rfl)
        have hb' : Below w.heap.size w w2 := by rw [hw2]; exact below_drewN (hb.setCell (p := ⟨w.heap.size + 1, 0, none⟩) (by simp) _) m
        clear hw2 hown hb
        have HC0' := Lib.hid hc0'
        have HC1' := Lib.hid hc1'
        have HFZ' := Lib.hid hfz'
        have HSZ' := Lib.hid hsz'
        clear hc0' hc1' hfz' hsz'
        by_cases he : er = 0
        · subst he
          obtain ⟨U', rfl, _, _, hU, _⟩ := decInt_ok _ n u hd1
          have HD1 := Lib.hid hd1
          clear hd1
          go_wp2_with (at_builtin; refine app1 (f := fint) W.heap.size (.tmp 37) (.tmp 39) 22 3 _ 8 rfl rfl Try.underlying22 inf_int rfl (by decide) _ acc n rfl rfl rfl hown' (Below.refl _ _) (by rw [← HSZ'.out]; exact hsz) ?_ ?_; (rw [HACC.out]; omega); intro v2 w3 hown2 hb2 hs2)
          go_roundw
          case rel => exact ⟨k + 1, p + U', acc ++ [n], hlt, by have : (b.drop p).length = b.length - p := List.length_drop; omega, by rw [List.length_append, HACC.out]; rfl, by go_num, by go_num, by show _ = _; rw [hdec.out, show N - k = (N - (k + 1)) + 1 by omega, decN_step _ _ _ _ _ _ _ HD1.out], (hb2.cell (by have := HWS.out; show w.heap.size < W.heap.size; omega)).trans HC0'.out, by rw [(hb2.cell (by have := HWS.out; show w.heap.size + 1 < W.heap.size; omega)).trans HC1'.out]; go_num, (hb2.frozen (by have := HWS.out; show w.heap.size + 1 < W.heap.size; omega)).trans HFZ'.out, by have := HSZ'.out; omega, hown2, hb'.trans (hb2.mono hle)⟩
          case measure => simp only [intOf]; omega
        · have he2 : (er != 0) = true := by simpa using he
          have HE := Lib.hid he
          have HD1 := Lib.hid hd1
          clear he hd1
          go_wp2_with fail
          go_ret3
          refine ⟨_, [], _, _, rfl, ?_, Own.nil _ _ _ _, hb'⟩
          rw [decInts, decList, HD.out, if_neg (by simp)]
          have := hdec.out
          rw [show N - k = (N - (k + 1)) + 1 by omega, decN_err _ _ _ _ _ _ _ _ HD1.out HE.out] at this
          simpa using this
      · have hkn : k = N := by omega
        have hlt1 : decide ((k : Int) < (N : Int)) = false := by simp; omega
        have hlt2 : decide (k < N) = false := by simp; omega
        have HKN := Lib.hid hkn
        clear hkn hWs hc0 hc1 hfz
        go_wp2_with fail
        go_ret3
        refine ⟨_, acc, _, _, rfl, ?_, hown.lower hle, hb⟩
        rw [decInts, decList, HD.out, if_neg (by simp)]
        have := hdec.out
        rw [HKN.out, Nat.sub_self] at this
        simpa [decN] using this
end Go.Proofs.Ytdmindmelaemjaa
