/- custodyref01.GetDigests computes decDigs. (NOT BUILT WHOLE YET) -/
import Derived.Test.YtdmindmelaemjaaRList
namespace Go.Proofs.Ytdmindmelaemjaa
open Go.RowKit
theorem seg_set {w : World} {g j : Nat} {xs : List Value} {v : Value} (h : Seg w (some ⟨g, 0, none⟩) xs) (hj : j < xs.length) : Seg (w.setCell ⟨g, j, none⟩ v) (some ⟨g, 0, none⟩) (xs.set j v) := by
  intro k u hu
  refine ⟨_, rfl, ?_⟩
  rw [add_zero']
  by_cases hk : k = j
  · subst hk
    rw [List.getElem?_set_self hj] at hu
    cases hu
    exact World.cell?_setCell_same _ _ _ (cell_z h (List.getElem?_eq_getElem hj))
  · rw [List.getElem?_set_ne (Ne.symm hk)] at hu
    rw [World.cell?_setCell_other _ _ _ _ (by simp)]
    exact cell_z h hu
def fill (D : List UInt8) (j : Nat) : List UInt8 := D.take j ++ List.replicate (16 - j) 0
theorem fill_len (D : List UInt8) (j : Nat) (hD : D.length = 16) (hj : j ≤ 16) : (fill D j).length = 16 := by
  simp only [fill, List.length_append, List.length_take, List.length_replicate]; omega
theorem fill_set (D : List UInt8) (j : Nat) (d : UInt8) (hD : D.length = 16) (hj : j < 16) (hd : D[j]? = some d) : ((fill D j).map fu8).set j (fu8 d) = (fill D (j + 1)).map fu8 := by
  rw [← List.map_set]
  congr 1
  unfold fill
  have hl : (D.take j).length = j := by rw [List.length_take]; omega
  rw [List.set_append_right _ _ (by omega), hl, Nat.sub_self, show 16 - j = (16 - (j + 1)) + 1 by omega, List.replicate_succ, List.set_cons_zero, List.take_add_one, hd]
  simp
theorem fill_end (D : List UInt8) (hD : D.length = 16) : fill D 16 = D := by simp [fill, ← hD]
set_option maxRecDepth 100000 in
set_option maxHeartbeats 1000000 in
theorem rgetdigs_s (b : List UInt8) (A : Option Addr) (c : Nat) (w : World) (hS : Seg w A (b.map fu8)) (hcap : b.length ≤ c) (hl : b.length ≤ 1048576) (l : List (List UInt8)) (u er : Int) (hd : decDigs b = (l, u, er)) :
    Calls Try.prog 35 #[.slice A b.length c] w (RetD l u er w) := by
  obtain ⟨⟨n, at_, e⟩, hc⟩ : ∃ r, decCnt b 16 = r := ⟨_, rfl⟩
  by_cases he : e = 0
  · subst he
    obtain ⟨N, U, rfl, rfl, h1, h2, h3, _⟩ := decCnt_ok b 16 n at_ (by decide) hc
    rw [decDigs, hc, if_neg (by simp)] at hd
    simp only [Prod.mk.injEq] at hd
    have HC := Lib.hid hc
    have HD := Lib.hid hd
    clear hc hd
    go_enter Try.func35, Try.ntmps35
    go_wp2_with fail
    refine (rcount_s b 16 (by decide) (by decide) A c w hS hcap hl _ _ _ HC.out).mono ?_
    rintro e w1 ⟨rfl, hb⟩
    have HS := Lib.hid hS
    clear hS
    go_wp2_with fail
    go_loopw [6, 8, 9] (fun at_ v i wr => ∃ k : Nat, k ≤ N ∧ at_ = .int .i64 ((U + 16 * k : Nat) : Int) ∧ i = .int .i64 k ∧ OwnD wr w.heap.size v (chunks b U k) ∧ Below w.heap.size w wr) (fun _ _ i _ => N - (intOf i).toNat)
    case atStart => exact ⟨0, Nat.zero_le _, rfl, rfl, OwnD.nil _ _, hb⟩
    case round =>
      clear hb
      obtain ⟨k, hk, rfl, rfl, hown, hb⟩ := hrel
      by_cases hlt : k < N
      · have hlt1 : decide ((k : Int) < (N : Int)) = true := by simp; omega
        have hlt2 : decide (k < N) = true := by simp; omega
        obtain ⟨w0, hw0⟩ : ∃ wo : World, wo = wr := ⟨_, rfl⟩
        subst hw0
        have hd16 : ((b.drop (U + 16 * k)).take 16).length = 16 := by rw [List.length_take, List.length_drop]; omega
        obtain ⟨D, hD⟩ : ∃ D, D = (b.drop (U + 16 * k)).take 16 := ⟨_, rfl⟩
        rw [← hD] at hd16
        have HD16 := Lib.hid hd16
        have HDD := Lib.hid hD
        clear hD hd16
        go_wp2_with fail
        obtain ⟨W0, hW0⟩ : ∃ W, W = w0.alloc (.cells #[.int .u8 0, .int .u8 0, .int .u8 0, .int .u8 0, .int .u8 0, .int .u8 0, .int .u8 0, .int .u8 0, .int .u8 0, .int .u8 0, .int .u8 0, .int .u8 0, .int .u8 0, .int .u8 0, .int .u8 0, .int .u8 0] 57) := ⟨_, rfl⟩
        rw [← hW0]
        have hB0 : Below w0.heap.size w0 W0 := by rw [hW0]; exact alloc_below w0 _
        have hF0 : Seg W0 (some ⟨w0.heap.size, 0, none⟩) ((fill D 0).map fu8) := by rw [hW0]; exact seg_new w0 (List.replicate 16 (.int .u8 0)) _
        have hZ0 : ∀ j, W0.frozen? ⟨w0.heap.size, j, none⟩ = false := by
          intro j
          rw [hW0]
          unfold World.frozen?
          rw [heap_alloc_new]
          rfl
        have HZ0 := Lib.hid hZ0
        clear hW0 hZ0
        go_loopw [11] (fun i wr => ∃ j : Nat, j ≤ 16 ∧ i = .int .i64 j ∧ Below w0.heap.size w0 wr ∧ Seg wr (some ⟨w0.heap.size, 0, none⟩) ((fill D j).map fu8) ∧ Hid (∀ j, wr.frozen? ⟨w0.heap.size, j, none⟩ = false)) (fun i _ => 16 - (intOf i).toNat)
        case atStart => exact ⟨0, by omega, rfl, hB0, hF0, HZ0⟩
        case round =>
          obtain ⟨j, hj, rfl, hb1, hF, hZ⟩ := hrel
          by_cases hlt3 : j < 16
          · have hd1 : decide ((j : Int) < 16) = true := by simp; omega
            obtain ⟨d, hdj⟩ := get_of D j (by rw [HD16.out]; exact hlt3)
            have hbj : b[U + 16 * k + j]? = some d := by
              have := hdj
              rw [HDD.out, List.getElem?_take_of_lt hlt3, List.getElem?_drop] at this
              exact this
            obtain ⟨ad, rfl, hcell⟩ := (HS.out.below (below_then hb hb.size hb1)).at_ (map_at fu8 hbj)
            unfold fu8 at hcell
            have hfz := hZ.out j
            have hlen := fill_len D j HD16.out hj
            have hc2 := cell_z hF (j := j) (List.getElem?_eq_getElem (by rw [List.length_map, hlen]; exact hlt3))
            have hst := fill_set D j d HD16.out hlt3 hdj
            have hS3 := seg_set (v := fu8 d) hF (j := j) (by rw [List.length_map, hlen]; exact hlt3)
            rw [hst] at hS3
            have HS3 := Lib.hid hS3
            have hidx : U + 16 * k + j < b.length := by omega
            clear hst hS3 hdj hbj hF
            go_wp2_with fail
            go_roundw
            case rel => exact ⟨j + 1, by omega, by go_num, hb1.setCell (p := ⟨w0.heap.size, j, none⟩) (Nat.le_refl _) _, HS3.out, Lib.hid (fun q => by rw [World.frozen?_setCell]; exact hZ.out q)⟩
            case measure => simp only [intOf]; omega
          · have hd1 : decide ((j : Int) < 16) = false := by simp; omega
            have hj16 : j = 16 := by omega
            rw [hj16, fill_end D HD16.out] at hF
            have HF := Lib.hid hF
            have hown1 : OwnD wr w.heap.size _ (chunks b U k) := ⟨own_below hown.1 hb1, hown.2⟩
            have hB1 := below_then hb hb.size hb1
            have HCL := Lib.hid (chunks_len b U k)
            have hNk : N ≤ 65536 := by omega
            clear hj16 hF hown hb
            go_wp2_with (first
              | (refine op_load_agg (ad := ⟨w0.heap.size, 0, none⟩) (cs := D.map fu8) HF.out (.tmp 10) 57 _ rfl rfl Try.underlying57 rfl (by rw [List.length_map, HD16.out]; exact siz_dig) rfl ?_)
              | (refine op_build1 (cs := (D.map fu8).toArray) (.tmp 39) 24 57 rfl rfl rfl Try.underlying24 inf_dig rfl (by decide) (by decide) ?_ ?_; (have := HD16.out; simpa using this))
              | (at_builtin; refine app_dig (y := D) hown1 hB1 hB1.size ?_ HD16.out (.tmp 38) (.tmp 40) rfl rfl rfl rfl ?_; (rw [HCL.out]; omega); intro v2 w3 hown2 hb2 hs2))
            go_roundw
            case rel => exact ⟨k + 1, hlt, by rw [Nat.mul_succ, ← Nat.add_assoc]; go_num, by go_num, by rw [chunks, ← HDD.out]; exact hown2, hb2⟩
            case measure => simp only [intOf]; omega
      · have hkn : k = N := by omega
        have hlt1 : decide ((k : Int) < (N : Int)) = false := by simp; omega
        have hlt2 : decide (k < N) = false := by simp; omega
        have hd := HD.out
        obtain ⟨e1, e2, e3⟩ := hd
        have h16 := hown.2
        obtain ⟨A', c', rfl, hSeg⟩ := hown.seg
        subst e2 e3
        subst hkn
        have e4 : chunks b U k = l := by simpa using e1
        subst e4
        go_wp2_with fail
        go_ret3
        exact ⟨A', c', by simp, hSeg, h16, hb⟩
  · rw [decDigs, hc, if_pos he] at hd
    simp only [Prod.mk.injEq] at hd
    obtain ⟨rfl, rfl, rfl⟩ := hd
    have he2 : (e != 0) = true := by simpa using he
    have HC := Lib.hid hc
    clear he hc
    go_enter Try.func35, Try.ntmps35
    go_wp2_with fail
    refine (rcount_s b 16 (by decide) (by decide) A c w hS hcap hl _ _ _ HC.out).mono ?_
    rintro e w1 ⟨rfl, hb⟩
    go_wp2_with fail
    go_ret3
    exact ⟨none, 0, rfl, Seg.nil _ _, fun e he => (by cases he), hb⟩
end Go.Proofs.Ytdmindmelaemjaa
