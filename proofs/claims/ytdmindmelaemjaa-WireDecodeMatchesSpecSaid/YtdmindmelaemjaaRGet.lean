/- custodyref01.GetInt computes decInt. -/
import Derived.Test.YtdmindmelaemjaaRPure
import Derived.Deep.RegionWith
import Derived.IntWalk
namespace Go.Proofs.Ytdmindmelaemjaa
open Go.RowKit
theorem addr_add0 (a : Addr) : a.add 0 = a := by
  rcases a with ⟨b, o, s⟩
  rcases s with _ | s <;> simp [Addr.add]
theorem xor_255 (u : UInt8) : ((u ^^^ 255).toNat : Int) = 255 - (u.toNat : Int) := by
  have key : ∀ b : BitVec 8, (b ^^^ 255#8).toNat = 255 - b.toNat := by decide
  have h : (u ^^^ 255).toNat = 255 - u.toNat := key u.toBitVec
  have := u.toNat_lt
  omega
set_option maxRecDepth 100000 in
set_option maxHeartbeats 1000000 in
theorem rgetint_s (b : List UInt8) (A : Option Addr) (c : Nat) (w : World) (hS : Seg w A (b.map fu8)) (hcap : b.length ≤ c) (hl : b.length ≤ 1048576) (n u er : Int) (hd : decInt b = (n, u, er)) :
    Calls Try.prog 25 #[.slice A b.length c] w (RetV (.tuple #[.int .i64 n, .int .i64 u, .int .i64 er]) w) := by
  cases b with
  | nil =>
    rw [dec_nil] at hd
    simp only [Prod.mk.injEq] at hd
    obtain ⟨rfl, rfl, rfl⟩ := hd
    go_enter Try.func25, Try.ntmps25
    go_wp2_with fail
    go_ret3
    exact ⟨rfl, Below.refl _ _⟩
  | cons h t =>
    have hlen : (h :: t).length = t.length + 1 := rfl
    rw [hlen] at hcap hl ⊢
    have hc0 := hS.at_ (j := 0) (u := fu8 h) rfl
    obtain ⟨ad, rfl, hc0⟩ := hc0
    unfold fu8 at hc0
    rw [addr_add0] at hc0
    have hz0 : ((t.length : Int) + 1 == 0) = false := by simp; omega
    by_cases hneg : h.toNat < 128
    · obtain ⟨hf, hk1⟩ := hk_neg h hneg
      have hh := h.toNat_lt
      have hd1 : decide ((h.toNat : Int) < 128) = true := by simp; omega
      by_cases hfar : 8 < hk h
      · rw [dec_far h t hfar] at hd
        simp only [Prod.mk.injEq] at hd
        obtain ⟨rfl, rfl, rfl⟩ := hd
        have hd3 : decide ((h.toNat : Int) < 119) = true := by simp; omega
        clear hS
        go_enter Try.func25, Try.ntmps25
        go_wp2_with fail
        go_ret3
        exact ⟨rfl, Below.refl _ _⟩
      have hd3 : decide ((h.toNat : Int) < 119) = false := by simp; omega
      have hd2 : decide ((136 : Int) < (h.toNat : Int)) = false := by simp; omega
      by_cases hsh : t.length < hk h
      · rw [dec_short h t (by omega) hsh] at hd
        simp only [Prod.mk.injEq] at hd
        obtain ⟨rfl, rfl, rfl⟩ := hd
        have hd4 : decide ((t.length : Int) < 127 - (h.toNat : Int)) = true := by simp; omega
        clear hS
        go_enter Try.func25, Try.ntmps25
        go_wp2_with fail
        go_ret3
        exact ⟨rfl, Below.refl _ _⟩
      · have hd4 : decide ((t.length : Int) < 127 - (h.toNat : Int)) = false := by simp; omega
        have hk8 : hk h ≤ 8 := by omega
        have hkt : hk h ≤ t.length := by omega
        have HS := Lib.hid hS
        have HD := Lib.hid hd
        clear hS hd
        go_enter Try.func25, Try.ntmps25
        go_wp2_with fail
        go_loop [7, 8] (fun m i => ∃ j V : Nat, j ≤ hk h ∧ V < 9223372036854775808 ∧ Hid (V = val ((digs h t).take j)) ∧ m = .int .i64 (V : Int) ∧ i = .int .i64 ((j + 1 : Nat) : Int)) (fun _ i => hk h + 1 - (intOf i).toNat)
        case atStart => exact ⟨0, 0, Nat.zero_le _, by omega, Lib.hid (by simp [val]), rfl, rfl⟩
        case round =>
          obtain ⟨j, V, hj, hv, HV, rfl, rfl⟩ := hrel
          by_cases hlt : j < hk h
          · obtain ⟨d, hd0⟩ := get_of t j (by omega)
            have hcell := HS.out.cell (j := j + 1) (u := fu8 d) (by simpa using ⟨d, hd0, rfl⟩)
            unfold fu8 at hcell
            rw [add_lit] at hcell
            have hD : (digs h t)[j]? = some (d ^^^ fl h) := by rw [digs, List.getElem?_map, List.getElem?_take_of_lt hlt, hd0]; rfl
            have hst := val_step (digs h t) j _ hD
            have hbig := val_big (digs h t) j (by rw [digs_len h t hkt]; exact hlt)
            rw [← HV.out] at hst hbig
            rw [hf] at hst
            have hdl := d.toNat_lt
            have hx := xor_255 d
            have hc1 : decide (((j + 1 : Nat) : Int) ≤ 127 - (h.toNat : Int)) = true := by simp; omega
            by_cases hg : 36028797018963967 < V
            · have hc2 : decide ((36028797018963967 : Int) < (V : Int)) = true := by simp; omega
              have hd := HD.out
              rw [dec_big h t hk8 hkt (hbig hg)] at hd
              simp only [Prod.mk.injEq] at hd
              obtain ⟨rfl, rfl, rfl⟩ := hd
              clear hst hbig hx hD hd0
              go_wp2_with fail
              go_ret3
              exact ⟨rfl, Below.refl _ _⟩
            · have hc2 : decide ((36028797018963967 : Int) < (V : Int)) = false := by simp; omega
              have HST := Lib.hid hst
              have HX := Lib.hid hx
              clear hst hx hbig hD hd0
              go_wp2_with fail
              go_round
              case rel => exact ⟨j + 1, 256 * V + (d ^^^ fl h).toNat, hlt, by rw [hf]; have := HX.out; omega, Lib.hid (by rw [hf]; exact HST.out.symm), by rw [hf]; have := HX.out; go_num, by go_num⟩
              case measure => simp only [intOf]; omega
          · have hjk : j = hk h := by omega
            have hc1 : decide (((j + 1 : Nat) : Int) ≤ 127 - (h.toNat : Int)) = false := by simp; omega
            subst hjk
            have hV := HV.out
            rw [List.take_of_length_le (by rw [digs_len h t hkt]; exact Nat.le_refl _)] at hV
            have hfit := dec_fits h t hk8 hkt (by omega)
            rw [← hV] at hfit
            have hrn : rn h V = -1 - (V : Int) := by simp [rn, hneg]
            rw [hrn] at hfit
            have htl : ((h :: t).take (hk h + 1)).length = hk h + 1 := by rw [List.length_take, List.length_cons]; omega
            have hSt : Seg w (some ad) (((h :: t).take (hk h + 1)).map fu8) := by rw [List.map_take]; exact HS.out.take _
            have HST := Lib.hid hSt
            have HTL := Lib.hid htl
            have HFT := Lib.hid hfit
            have hkc : (127 - (h.toNat : Int) + 1).toNat ≤ t.length + 1 := by omega
            clear hV hfit hrn htl hSt
            go_wp2_with fail
            have hn0 : -9223372036854775808 ≤ (-1 - (V : Int)) := by omega
            have hn1 : (-1 - (V : Int)) ≤ 9223372036854775807 := by omega
            have hle : (encInt (-1 - (V : Int))).length ≤ 140737488351232 := by have := encInt_le (-1 - (V : Int)); omega
            have hdw : Below w.heap.size w w.drew := (Below.refl w.heap.size w).drew
            have hSd := HST.out.below hdw
            have HSD := Lib.hid hSd
            clear hSd
            have hs1 : (0 : Int) ≤ 127 - (h.toNat : Int) + 1 := by omega
            have hs2 : 127 - (h.toNat : Int) + 1 ≤ (c : Int) := by omega
            have hs3 : (127 - (h.toNat : Int) + 1).toNat = hk h + 1 := by omega
            have hs4 : IntKind.i64.wrap (127 - (h.toNat : Int) + 1) = 127 - (h.toNat : Int) + 1 := IntWalk.i64_in _ (by omega)
            have hs5 : hk h + 1 ≤ c := by omega
            have hfit := HFT.out
            by_cases heq : encInt (-1 - (V : Int)) = (h :: t).take (hk h + 1)
            · rw [if_pos heq, HD.out] at hfit
              simp only [Prod.mk.injEq] at hfit
              obtain ⟨rfl, rfl, rfl⟩ := hfit
              rw [hk1]
              have HEQ := Lib.hid heq
              clear heq
              go_region_with (first
                | (go_at_call 15; refine (rint_s _ (-1 - (V : Int)) hn0 hn1).mono ?_; rintro e w1 ⟨Ar, cr, rfl, _, sr, hb1⟩)
                | (go_at_call 13; have hsame := same_s _ (encInt (-1 - (V : Int))) ((h :: t).take (hk h + 1)) Ar (some ad) cr c sr (HSD.out.below hb1) hle; rw [HTL.out, decide_eq_true HEQ.out] at hsame; refine hsame.mono ?_; clear hsame; rintro e w2 ⟨rfl, hb2⟩))
              all_goals (
                go_wp2_with fail
                go_ret3
                refine ⟨?_, below_then (below_then hdw (Nat.le_refl _) hb1) hb1.size hb2⟩
                first | rfl | (simp; done) | (simp [hk1]; done) | skip)
            · rw [if_neg heq, HD.out] at hfit
              simp only [Prod.mk.injEq] at hfit
              obtain ⟨rfl, rfl, rfl⟩ := hfit
              have HEQ := Lib.hid heq
              clear heq
              go_region_with (first
                | (go_at_call 15; refine (rint_s _ (-1 - (V : Int)) hn0 hn1).mono ?_; rintro e w1 ⟨Ar, cr, rfl, _, sr, hb1⟩)
                | (go_at_call 13; have hsame := same_s _ (encInt (-1 - (V : Int))) ((h :: t).take (hk h + 1)) Ar (some ad) cr c sr (HSD.out.below hb1) hle; rw [HTL.out, decide_eq_false HEQ.out] at hsame; refine hsame.mono ?_; clear hsame; rintro e w2 ⟨rfl, hb2⟩))
              all_goals (
                go_wp2_with fail
                go_ret3
                refine ⟨?_, below_then (below_then hdw (Nat.le_refl _) hb1) hb1.size hb2⟩
                first | rfl | (simp; done) | (simp [hk1]; done) | skip)
    · obtain ⟨hf, hk1⟩ := hk_pos h hneg
      have hh := h.toNat_lt
      have hd1 : decide ((h.toNat : Int) < 128) = false := by simp; omega
      by_cases hfar : 8 < hk h
      · rw [dec_far h t hfar] at hd
        simp only [Prod.mk.injEq] at hd
        obtain ⟨rfl, rfl, rfl⟩ := hd
        have hd3 : decide ((h.toNat : Int) < 119) = false := by simp; omega
        have hd2 : decide ((136 : Int) < (h.toNat : Int)) = true := by simp; omega
        clear hS
        go_enter Try.func25, Try.ntmps25
        go_wp2_with fail
        go_ret3
        exact ⟨rfl, Below.refl _ _⟩
      have hd3 : decide ((h.toNat : Int) < 119) = false := by simp; omega
      have hd2 : decide ((136 : Int) < (h.toNat : Int)) = false := by simp; omega
      by_cases hsh : t.length < hk h
      · rw [dec_short h t (by omega) hsh] at hd
        simp only [Prod.mk.injEq] at hd
        obtain ⟨rfl, rfl, rfl⟩ := hd
        have hd4 : decide ((t.length : Int) < (h.toNat : Int) - 128) = true := by simp; omega
        clear hS
        go_enter Try.func25, Try.ntmps25
        go_wp2_with fail
        go_ret3
        exact ⟨rfl, Below.refl _ _⟩
      · have hd4 : decide ((t.length : Int) < (h.toNat : Int) - 128) = false := by simp; omega
        have hk8 : hk h ≤ 8 := by omega
        have hkt : hk h ≤ t.length := by omega
        have HS := Lib.hid hS
        have HD := Lib.hid hd
        clear hS hd
        go_enter Try.func25, Try.ntmps25
        go_wp2_with fail
        go_loop [7, 8] (fun m i => ∃ j V : Nat, j ≤ hk h ∧ V < 9223372036854775808 ∧ Hid (V = val ((digs h t).take j)) ∧ m = .int .i64 (V : Int) ∧ i = .int .i64 ((j + 1 : Nat) : Int)) (fun _ i => hk h + 1 - (intOf i).toNat)
        case atStart => exact ⟨0, 0, Nat.zero_le _, by omega, Lib.hid (by simp [val]), rfl, rfl⟩
        case round =>
          obtain ⟨j, V, hj, hv, HV, rfl, rfl⟩ := hrel
          by_cases hlt : j < hk h
          · obtain ⟨d, hd0⟩ := get_of t j (by omega)
            have hcell := HS.out.cell (j := j + 1) (u := fu8 d) (by simpa using ⟨d, hd0, rfl⟩)
            unfold fu8 at hcell
            rw [add_lit] at hcell
            have hD : (digs h t)[j]? = some (d ^^^ fl h) := by rw [digs, List.getElem?_map, List.getElem?_take_of_lt hlt, hd0]; rfl
            have hst := val_step (digs h t) j _ hD
            have hbig := val_big (digs h t) j (by rw [digs_len h t hkt]; exact hlt)
            rw [← HV.out] at hst hbig
            rw [hf] at hst
            have hdl := d.toNat_lt
            have hx : ((d ^^^ 0).toNat : Int) = (d.toNat : Int) := by rw [UInt8.xor_zero]
            have hc1 : decide (((j + 1 : Nat) : Int) ≤ (h.toNat : Int) - 128) = true := by simp; omega
            by_cases hg : 36028797018963967 < V
            · have hc2 : decide ((36028797018963967 : Int) < (V : Int)) = true := by simp; omega
              have hd := HD.out
              rw [dec_big h t hk8 hkt (hbig hg)] at hd
              simp only [Prod.mk.injEq] at hd
              obtain ⟨rfl, rfl, rfl⟩ := hd
              clear hst hbig hx hD hd0
              go_wp2_with fail
              go_ret3
              exact ⟨rfl, Below.refl _ _⟩
            · have hc2 : decide ((36028797018963967 : Int) < (V : Int)) = false := by simp; omega
              have HST := Lib.hid hst
              have HX := Lib.hid hx
              clear hst hx hbig hD hd0
              go_wp2_with fail
              go_round
              case rel => exact ⟨j + 1, 256 * V + (d ^^^ fl h).toNat, hlt, by rw [hf]; have := HX.out; omega, Lib.hid (by rw [hf]; exact HST.out.symm), by rw [hf]; have := HX.out; go_num, by go_num⟩
              case measure => simp only [intOf]; omega
          · have hjk : j = hk h := by omega
            have hc1 : decide (((j + 1 : Nat) : Int) ≤ (h.toNat : Int) - 128) = false := by simp; omega
            subst hjk
            have hV := HV.out
            rw [List.take_of_length_le (by rw [digs_len h t hkt]; exact Nat.le_refl _)] at hV
            have hfit := dec_fits h t hk8 hkt (by omega)
            rw [← hV] at hfit
            have hrn : rn h V = (V : Int) := by simp [rn, hneg]
            rw [hrn] at hfit
            have htl : ((h :: t).take (hk h + 1)).length = hk h + 1 := by rw [List.length_take, List.length_cons]; omega
            have hSt : Seg w (some ad) (((h :: t).take (hk h + 1)).map fu8) := by rw [List.map_take]; exact HS.out.take _
            have HST := Lib.hid hSt
            have HTL := Lib.hid htl
            have HFT := Lib.hid hfit
            have hkc : ((h.toNat : Int) - 128 + 1).toNat ≤ t.length + 1 := by omega
            clear hV hfit hrn htl hSt
            go_wp2_with fail
            have hn0 : -9223372036854775808 ≤ (V : Int) := by omega
            have hn1 : (V : Int) ≤ 9223372036854775807 := by omega
            have hle : (encInt (V : Int)).length ≤ 140737488351232 := by have := encInt_le (V : Int); omega
            have hdw : Below w.heap.size w w.drew := (Below.refl w.heap.size w).drew
            have hSd := HST.out.below hdw
            have HSD := Lib.hid hSd
            clear hSd
            have hs1 : (0 : Int) ≤ (h.toNat : Int) - 128 + 1 := by omega
            have hs2 : (h.toNat : Int) - 128 + 1 ≤ (c : Int) := by omega
            have hs3 : ((h.toNat : Int) - 128 + 1).toNat = hk h + 1 := by omega
            have hs4 : IntKind.i64.wrap ((h.toNat : Int) - 128 + 1) = (h.toNat : Int) - 128 + 1 := IntWalk.i64_in _ (by omega)
            have hs5 : hk h + 1 ≤ c := by omega
            have hfit := HFT.out
            by_cases heq : encInt (V : Int) = (h :: t).take (hk h + 1)
            · rw [if_pos heq, HD.out] at hfit
              simp only [Prod.mk.injEq] at hfit
              obtain ⟨rfl, rfl, rfl⟩ := hfit
              rw [hk1]
              have HEQ := Lib.hid heq
              clear heq
              go_region_with (first
                | (go_at_call 15; refine (rint_s _ (V : Int) hn0 hn1).mono ?_; rintro e w1 ⟨Ar, cr, rfl, _, sr, hb1⟩)
                | (go_at_call 13; have hsame := same_s _ (encInt (V : Int)) ((h :: t).take (hk h + 1)) Ar (some ad) cr c sr (HSD.out.below hb1) hle; rw [HTL.out, decide_eq_true HEQ.out] at hsame; refine hsame.mono ?_; clear hsame; rintro e w2 ⟨rfl, hb2⟩))
              all_goals (
                go_wp2_with fail
                go_ret3
                refine ⟨?_, below_then (below_then hdw (Nat.le_refl _) hb1) hb1.size hb2⟩
                first | rfl | (simp; done) | (simp [hk1]; done) | skip)
            · rw [if_neg heq, HD.out] at hfit
              simp only [Prod.mk.injEq] at hfit
              obtain ⟨rfl, rfl, rfl⟩ := hfit
              have HEQ := Lib.hid heq
              clear heq
              go_region_with (first
                | (go_at_call 15; refine (rint_s _ (V : Int) hn0 hn1).mono ?_; rintro e w1 ⟨Ar, cr, rfl, _, sr, hb1⟩)
                | (go_at_call 13; have hsame := same_s _ (encInt (V : Int)) ((h :: t).take (hk h + 1)) Ar (some ad) cr c sr (HSD.out.below hb1) hle; rw [HTL.out, decide_eq_false HEQ.out] at hsame; refine hsame.mono ?_; clear hsame; rintro e w2 ⟨rfl, hb2⟩))
              all_goals (
                go_wp2_with fail
                go_ret3
                refine ⟨?_, below_then (below_then hdw (Nat.le_refl _) hb1) hb1.size hb2⟩
                first | rfl | (simp; done) | (simp [hk1]; done) | skip)
end Go.Proofs.Ytdmindmelaemjaa
