import Derived.Test.YtdmindmelaemjaaWRead
namespace Go.Proofs.Ytdmindmelaemjaa
open Go.RowKit
theorem chunks_len (b : List UInt8) (p k : Nat) : (chunks b p k).length = k := by
  induction k with
  | zero => rfl
  | succ k ih => simp [chunks, ih]
set_option maxRecDepth 100000 in
set_option maxHeartbeats 400000 in
theorem getdigs_any (b : List UInt8) (A : Option Addr) (c : Nat) (w : World) (hS : Seg w A (b.map fu8)) (hcap : b.length ≤ c) (hl : b.length ≤ 1048576) :
    Calls Try.prog 34 #[.slice A b.length c] w fun e w' => ∃ v l u er, e = .returned (.tuple #[v, .int .i64 u, .int .i64 er]) ∧ decDigs b = (l, u, er) ∧ OwnD w' w.heap.size v l ∧ Below w.heap.size w w' := by
  go_enter Try.func34, Try.ntmps34
  go_wp2_with fail
  refine (count_any b 16 (by decide) A c w hS hcap (by omega) (by decide)).mono ?_
  rintro e w1 ⟨n, u, er, rfl, hd, rfl⟩
  rcases hd with ⟨he, hd⟩ | ⟨rfl, hd⟩
  · have he2 : (er != 0) = true := by simpa using he
    have HD := Lib.hid hd
    have HE := Lib.hid he
    clear hd he
    go_wp2_with fail
    go_ret3
    exact ⟨_, [], _, _, rfl, by rw [decDigs, HD.out, if_pos HE.out], OwnD.nil _ _, Below.refl _ _⟩
  · obtain ⟨N, U, rfl, rfl, h1, h2, h3, _⟩ := decCnt_ok b 16 n u (by decide) hd
    have HD := Lib.hid hd
    have HS := Lib.hid hS
    clear hd hS
    go_wp2_with fail
    go_loopw [6, 8, 19] (fun at_ v i wr => ∃ k : Nat, k ≤ N ∧ at_ = .int .i64 ((U + 16 * k : Nat) : Int) ∧ i = .int .i64 k ∧ OwnD wr w.heap.size v (chunks b U k) ∧ Below w.heap.size w wr) (fun _ _ i _ => N - (intOf i).toNat)
    case atStart => exact ⟨0, Nat.zero_le _, rfl, rfl, OwnD.nil _ _, Below.refl _ _⟩
    case round =>
      obtain ⟨k, hk, rfl, rfl, hown, hb⟩ := hrel
      by_cases hlt : k < N
      · have hlt1 : decide ((k : Int) < (N : Int)) = true := by simp; omega
        have hlt2 : decide (k < N) = true := by simp; omega
        have hSr := HS.out.below hb
        have HSR := Lib.hid hSr
        clear hSr
        generalize hP : U + 16 * k = p at *
        have HP := Lib.hid hP
        have hp16 : p + 16 ≤ b.length := by omega
        clear hP
        have hd16 : ((b.drop p).take 16).length = 16 := by rw [List.length_take, List.length_drop]; omega
        have HD16 := Lib.hid hd16
        clear hd16
        have hcl := chunks_len b U k
        have HCL := Lib.hid hcl
        clear hcl
        go_wp2_with (first
          | (refine op_cut p (p + 16) HSR.out 28 5 _ _ (.tmp 22) _ _ rfl rfl Try.underlying28 siz_u8 rfl rfl ?_ (.inl rfl) (.inl rfl) ?_ ?_ ?_; omega; omega; omega; intro A' hS2; rw [Nat.add_sub_cancel_left] at hS2; obtain ⟨ad1, rfl⟩ := seg_some hS2 (by rw [HD16.out]; decide); have HS2 := Lib.hid hS2; clear hS2; generalize hDD : (b.drop p).take 16 = D at *; have HDD := Lib.hid hDD; clear hDD)
          | (refine op_toarr (.tmp 26) 57 rfl rfl Try.underlying57 rfl ?_ ?_; omega)
          | (refine op_load_agg (ad := ad1) (cs := D.map fu8) HS2.out (.tmp 27) 57 _ rfl rfl Try.underlying57 rfl (by rw [List.length_map, HD16.out]; exact siz_dig) rfl ?_)
          | (refine op_build1 (cs := (D.map fu8).toArray) (.tmp 28) 24 57 rfl rfl rfl Try.underlying24 inf_dig rfl (by decide) (by decide) ?_ ?_; (have := HD16.out; simpa using this))
          | (at_builtin; refine app_dig (y := D) hown hb hb.size ?_ HD16.out (.tmp 21) (.tmp 29) rfl rfl rfl rfl ?_; (rw [HCL.out]; omega); intro v2 w3 hown2 hb2 hs2))
        go_roundw
        case rel => exact ⟨k + 1, hlt, by rw [Nat.mul_succ, ← Nat.add_assoc, HP.out]; go_num, by go_num, by rw [chunks, HP.out, HDD.out]; exact hown2, hb2⟩
        case measure => simp only [intOf]; omega
      · have hkn : k = N := by omega
        have hlt1 : decide ((k : Int) < (N : Int)) = false := by simp; omega
        have hlt2 : decide (k < N) = false := by simp; omega
        subst hkn
        go_wp2_with fail
        go_ret3
        refine ⟨_, _, _, _, rfl, ?_, hown, hb⟩
        rw [decDigs, HD.out, if_neg (by simp)]
        simp
end Go.Proofs.Ytdmindmelaemjaa
