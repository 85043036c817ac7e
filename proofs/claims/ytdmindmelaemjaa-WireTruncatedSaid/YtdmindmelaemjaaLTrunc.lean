/- custodylaw01.WireTruncated returns true; nothing that was there turns. -/
import Derived.Test.YtdmindmelaemjaaLList
namespace Go.Proofs.Ytdmindmelaemjaa
open Go.RowKit
theorem tot_le_of (x : List ByteArray) (h : ∀ y ∈ x, y.size ≤ 140737488351232) (hn : x.length ≤ 40) : tot x ≤ 1152921504606846976 := by
  have key : ∀ x : List ByteArray, (∀ y ∈ x, y.size ≤ 140737488351232) → (x.map ByteArray.size).sum ≤ x.length * 140737488351232 := by
    intro x
    induction x with
    | nil => intro _; exact Nat.zero_le _
    | cons a x ih =>
      intro h
      have h1 := ih fun y hy => h y (List.mem_cons_of_mem _ hy)
      have h2 := h a (List.mem_cons_self ..)
      rw [List.map_cons, List.sum_cons, List.length_cons]
      omega
  have := key x h
  unfold tot; omega
set_option maxRecDepth 100000 in
set_option maxHeartbeats 400000 in
theorem few_big (l : List ByteArray) (A : Option Addr) (c : Nat) (w : World) (hS : Seg w A (l.map fstr)) (hl : tot l ≤ 1152921504606846976) :
    Calls Try.prog 11 #[.slice A l.length c] w (RetV (.bool (decide (tot l ≤ 2000))) w) := by
  have hn : l.length ≤ 1152921504606846976 := Nat.le_trans (by unfold tot; omega) hl
  go_enter Try.func11, Try.ntmps11
  go_wp2
  go_loop [3, 10] (fun n i => ∃ k : Nat, k ≤ l.length ∧ i = .int .i64 k ∧ n = .int .i64 (tots l k : Nat)) (fun _ i => l.length - (intOf i).toNat)
  case atStart => exact ⟨0, Nat.zero_le _, rfl, by simp [tots]⟩
  case round =>
    obtain ⟨k, hk, rfl, rfl⟩ := hrel
    have hk1 := tots_le l k
    by_cases hlt : k < l.length
    · obtain ⟨x, hx⟩ := get_of l k hlt
      have hd1 : decide ((k : Int) < (l.length : Int)) = true := by simp; omega
      have hd2 : decide (k < l.length) = true := by simp; omega
      obtain ⟨ad, rfl, hc⟩ := hS.at_ (map_at fstr hx)
      unfold fstr at hc
      have hst := tots_step l k x hx
      have hk2 := tots_le l (k + 1)
      have hxs : x.size ≤ 1152921504606846976 := by omega
      have HST := Lib.hid hst
      clear hst hx
      go_wp2
      exact ⟨⟨k + 1, hlt, by go_num, by rw [HST.out]; go_num⟩, by simp only [intOf]; omega⟩
    · have hd1 : decide ((k : Int) < (l.length : Int)) = false := by simp; omega
      have hd2 : decide (k < l.length) = false := by simp; omega
      rw [tots_end l k (by omega)]
      by_cases ht : tot l ≤ 2000
      · have h1 : decide ((tot l : Int) ≤ 2000) = true := by simp; omega
        have h2 : decide (tot l ≤ 2000) = true := by simp; omega
        go_wp2
        go_ret
        exact ⟨rfl, Below.refl _ _⟩
      · have h1 : decide ((tot l : Int) ≤ 2000) = false := by simp; omega
        have h2 : decide (tot l ≤ 2000) = false := by simp; omega
        go_wp2
        go_ret
        exact ⟨rfl, Below.refl _ _⟩
set_option maxRecDepth 100000 in
set_option maxHeartbeats 4000000 in
theorem walk_trunc (n : Int) (hn0 : -9223372036854775808 ≤ n) (hn1 : n ≤ 9223372036854775807) (s : ByteArray) (hs : s.size ≤ 140737488351232)
    (l : List Int) (A1 : Option Addr) (c1 : Nat) (x : List ByteArray) (A2 : Option Addr) (c2 : Nat) (d : List (List UInt8)) (A3 : Option Addr) (c3 : Nat) (w : World)
    (h1 : Seg w A1 (l.map fint)) (hI : InI l) (hl : l.length ≤ 140737488351232) (h2 : Seg w A2 (x.map fstr)) (hxl : x.length ≤ 140737488351232) (hxs : ∀ y ∈ x, y.size ≤ 140737488351232) (h3 : Seg w A3 (d.flatten.map fu8)) (h16 : ∀ e ∈ d, e.length = 16) (hd : d.length ≤ 140737488351232) :
    Calls Try.prog 9 #[.int .i64 n, .string s, .slice A1 l.length c1, .slice A2 x.length c2, .slice A3 d.length c3] w (RetV (.bool true) w) := by
  have HI := Lib.hid hI
  have H16 := Lib.hid h16
  have HXS := Lib.hid hxs
  clear hI h16 hxs
  by_cases hbig : 400 < s.size + 9 * l.length + 16 * d.length
  · have hb1 : decide ((400 : Int) < (s.size : Int) + 9 * (l.length : Int) + 16 * (d.length : Int)) = true := by simp; omega
    go_enter Try.func9, Try.ntmps9
    go_wp2_with fail
    refine (sanity_s _).mono ?_
    rintro e w1 ⟨rfl, hb⟩
    go_wp2_with fail
    go_ret
    exact ⟨rfl, hb⟩
  have hb1 : decide ((400 : Int) < (s.size : Int) + 9 * (l.length : Int) + 16 * (d.length : Int)) = false := by simp; omega
  by_cases hxn : 40 < x.length
  · have hb2 : decide ((40 : Int) < (x.length : Int)) = true := by simp; omega
    go_enter Try.func9, Try.ntmps9
    go_wp2_with fail
    refine (sanity_s _).mono ?_
    rintro e w1 ⟨rfl, hb⟩
    go_wp2_with fail
    go_ret
    exact ⟨rfl, hb⟩
  have hb2 : decide ((40 : Int) < (x.length : Int)) = false := by simp; omega
  have hfew := few_big x A2 c2 w h2 (tot_le_of x HXS.out (by omega))
  by_cases htt : tot x ≤ 2000
  · rw [decide_eq_true htt] at hfew
    have HF := Lib.hid hfew
    clear hfew
    have hl0 := encInt_le n
    have hl1 : (encBytes s).length ≤ 409 := by have := encInt_le s.size; simp only [encBytes, List.length_append, bl_len]; omega
    have hl2 : (encInts l).length ≤ 409 := by have := encInts_le l; omega
    have hl3 : (encDigs d).length ≤ 409 := by have := encDigs_le d H16.out; omega
    have hl4 : (encStrs x).length ≤ 2369 := by have := encStrs_le x; omega
    go_enter Try.func9, Try.ntmps9
    go_wp2_with fail
    refine HF.out.mono ?_
    rintro e w1 ⟨rfl, hB⟩
    replace h1 := h1.below hB
    replace h2 := h2.below hB
    replace h3 := h3.below hB
    go_wp2_with fail
    refine (int_s _ n hn0 hn1).mono ?_
    rintro e w2 ⟨Ae, ce, rfl, hce, se, hb⟩
    replace hB := below_then hB hB.size hb
    replace h1 := h1.below hb
    replace h2 := h2.below hb
    replace h3 := h3.below hb
    clear hb
    go_wp2_with fail
    refine (bytes_s _ s (by omega)).mono ?_
    rintro e w3 ⟨Aa, ca, rfl, hca, sa, hb⟩
    replace hB := below_then hB hB.size hb
    replace h1 := h1.below hb
    replace h2 := h2.below hb
    replace h3 := h3.below hb
    replace se := se.below hb
    clear hb
    go_wp2_with fail
    refine (ints_s _ l A1 c1 h1 HI.out (by omega)).mono ?_
    rintro e w4 ⟨Ab, cb, rfl, hcb, sb, hb⟩
    replace hB := below_then hB hB.size hb
    replace h1 := h1.below hb
    replace h2 := h2.below hb
    replace h3 := h3.below hb
    replace se := se.below hb
    replace sa := sa.below hb
    clear hb
    go_wp2_with fail
    refine (strs_s _ x A2 c2 h2 (by omega) (by omega)).mono ?_
    rintro e w5 ⟨Ao, co, rfl, hco, so, hb⟩
    replace hB := below_then hB hB.size hb
    replace h1 := h1.below hb
    replace h2 := h2.below hb
    replace h3 := h3.below hb
    replace se := se.below hb
    replace sa := sa.below hb
    replace sb := sb.below hb
    clear hb
    go_wp2_with fail
    refine (digs_s _ d A3 c3 h3 H16.out (by omega)).mono ?_
    rintro e w6 ⟨Ac, cc, rfl, hcc, sc, hb⟩
    replace hB := below_then hB hB.size hb
    replace h1 := h1.below hb
    replace h2 := h2.below hb
    replace h3 := h3.below hb
    replace se := se.below hb
    replace sa := sa.below hb
    replace sb := sb.below hb
    replace so := so.below hb
    clear hb
    go_wp2_with fail
    obtain ⟨W0, hW0⟩ : ∃ W, W = w6.alloc (.cells #[.slice Ae (encInt n).length ce, .slice Aa (encBytes s).length ca, .slice Ab (encInts l).length cb, .slice Ao (encStrs x).length co, .slice Ac (encDigs d).length cc] 28) := ⟨_, rfl⟩
    rw [← hW0]
    have hb : Below w6.heap.size w6 W0 := by rw [hW0]; exact (Below.refl _ _).alloc (Nat.le_refl _) _
    have harr : Seg W0 (some ⟨w6.heap.size, 0, none⟩) [.slice Ae (encInt n).length ce, .slice Aa (encBytes s).length ca, .slice Ab (encInts l).length cb, .slice Ao (encStrs x).length co, .slice Ac (encDigs d).length cc] := by
      rw [hW0]
      exact seg_new _ _ _
    replace hB := below_then hB hB.size hb
    replace h1 := h1.below hb
    replace h2 := h2.below hb
    replace h3 := h3.below hb
    replace se := se.below hb
    replace sa := sa.below hb
    replace sb := sb.below hb
    replace so := so.below hb
    replace sc := sc.below hb
    clear hb
    clear hW0
    generalize w6.heap.size = blk at harr ⊢
    go_loopw [49] (fun i wr => ∃ k : Nat, k ≤ 5 ∧ i = .int .i64 k ∧ Below W0.heap.size W0 wr) (fun i _ => 5 - (intOf i).toNat)
    case atStart => exact ⟨0, by omega, rfl, Below.refl _ _⟩
    case round =>
      obtain ⟨k, hk, hi, hb⟩ := hrel
      have hcase : (k : Int) = 0 ∨ (k : Int) = 1 ∨ (k : Int) = 2 ∨ (k : Int) = 3 ∨ (k : Int) = 4 ∨ (k : Int) = 5 := by omega
      rcases hcase with hkk | hkk | hkk | hkk | hkk | hkk <;> rw [hkk] at hi <;> subst hi
      · skip
        have hcl := cell_z (harr.below hb) (j := 0) rfl
        have hpre := fun (j : Nat) (hj : j < (encInt n).length) => dec_prefix n j (by omega)
        have HP := Lib.hid hpre
        clear hpre
        have sx := se.below hb
        go_wp2_with fail
        obtain ⟨wo, hwo⟩ : ∃ wo, wo = wr := ⟨_, rfl⟩
        subst hwo
        go_loopw [57] (fun i wr => ∃ j : Nat, j ≤ (encInt n).length ∧ i = .int .i64 j ∧ Below wo.heap.size wo wr) (fun i _ => (encInt n).length - (intOf i).toNat)
        case atStart => exact ⟨0, Nat.zero_le _, rfl, Below.refl _ _⟩
        case round =>
          obtain ⟨j, hj, rfl, hb1⟩ := hrel
          replace sx := sx.below hb1
          by_cases hlt : j < (encInt n).length
          · have hd1 : decide ((j : Int) < (((encInt n).length : Nat) : Int)) = true := by simp; omega
            go_wp2_with (refine op_cut 0 j sx 28 5 _ _ _ _ _ rfl rfl Try.underlying28 siz_u8 rfl rfl hce (.inr ⟨rfl, rfl⟩) (.inl rfl) ?_ ?_ ?_; omega; omega; intro A' sy)
            have sz : Seg wr A' (((encInt n).take j).map fu8) := sy
            have hcall := getint_s wr ((encInt n).take j) A' ce sz (by rw [List.length_take]; omega) (by rw [List.length_take]; omega) _ _ _ (HP.out j (by omega))
            rw [List.length_take, Nat.min_eq_left (by omega)] at hcall
            refine hcall.mono ?_
            clear hcall
            rintro e w8 ⟨rfl, hb2⟩
            go_wp2_with fail
            go_roundw
            case rel => exact ⟨j + 1, hlt, by go_num, below_then hb1 hb1.size hb2⟩
            case measure => simp only [intOf]; omega
          · have hd1 : decide ((j : Int) < (((encInt n).length : Nat) : Int)) = false := by simp; omega
            go_wp2_with fail
            go_roundw
            case rel => exact ⟨1, by omega, by go_num, below_then hb hb.size hb1⟩
            case measure => simp only [intOf]; omega
      · skip
        have hcl := cell_z (harr.below hb) (j := 1) rfl
        have hpre := fun (j : Nat) (hj : j < (encBytes s).length) => bytes_prefix s (by omega) j (by omega)
        have HP := Lib.hid hpre
        clear hpre
        have sx := sa.below hb
        go_wp2_with fail
        obtain ⟨wo, hwo⟩ : ∃ wo, wo = wr := ⟨_, rfl⟩
        subst hwo
        go_loopw [57] (fun i wr => ∃ j : Nat, j ≤ (encBytes s).length ∧ i = .int .i64 j ∧ Below wo.heap.size wo wr) (fun i _ => (encBytes s).length - (intOf i).toNat)
        case atStart => exact ⟨0, Nat.zero_le _, rfl, Below.refl _ _⟩
        case round =>
          obtain ⟨j, hj, rfl, hb1⟩ := hrel
          replace sx := sx.below hb1
          by_cases hlt : j < (encBytes s).length
          · have hd1 : decide ((j : Int) < (((encBytes s).length : Nat) : Int)) = true := by simp; omega
            go_wp2_with (refine op_cut 0 j sx 28 5 _ _ _ _ _ rfl rfl Try.underlying28 siz_u8 rfl rfl hca (.inr ⟨rfl, rfl⟩) (.inl rfl) ?_ ?_ ?_; omega; omega; intro A' sy)
            have sz : Seg wr A' (((encBytes s).take j).map fu8) := sy
            have hcall := getbytes_s wr ((encBytes s).take j) A' ca sz (by rw [List.length_take]; omega) (by rw [List.length_take]; omega) _ _ _ (HP.out j (by omega))
            rw [List.length_take, Nat.min_eq_left (by omega)] at hcall
            refine hcall.mono ?_
            clear hcall
            rintro e w8 ⟨rfl, hb2⟩
            go_wp2_with fail
            go_roundw
            case rel => exact ⟨j + 1, hlt, by go_num, below_then hb1 hb1.size hb2⟩
            case measure => simp only [intOf]; omega
          · have hd1 : decide ((j : Int) < (((encBytes s).length : Nat) : Int)) = false := by simp; omega
            go_wp2_with fail
            go_roundw
            case rel => exact ⟨2, by omega, by go_num, below_then hb hb.size hb1⟩
            case measure => simp only [intOf]; omega
      · skip
        have hcl := cell_z (harr.below hb) (j := 2) rfl
        have hpre := fun (j : Nat) (hj : j < (encInts l).length) => ints_prefix l (by omega) HI.out j (by omega)
        have HP := Lib.hid hpre
        clear hpre
        have sx := sb.below hb
        go_wp2_with fail
        obtain ⟨wo, hwo⟩ : ∃ wo, wo = wr := ⟨_, rfl⟩
        subst hwo
        go_loopw [57] (fun i wr => ∃ j : Nat, j ≤ (encInts l).length ∧ i = .int .i64 j ∧ Below wo.heap.size wo wr) (fun i _ => (encInts l).length - (intOf i).toNat)
        case atStart => exact ⟨0, Nat.zero_le _, rfl, Below.refl _ _⟩
        case round =>
          obtain ⟨j, hj, rfl, hb1⟩ := hrel
          replace sx := sx.below hb1
          by_cases hlt : j < (encInts l).length
          · have hd1 : decide ((j : Int) < (((encInts l).length : Nat) : Int)) = true := by simp; omega
            go_wp2_with (refine op_cut 0 j sx 28 5 _ _ _ _ _ rfl rfl Try.underlying28 siz_u8 rfl rfl hcb (.inr ⟨rfl, rfl⟩) (.inl rfl) ?_ ?_ ?_; omega; omega; intro A' sy)
            have sz : Seg wr A' (((encInts l).take j).map fu8) := sy
            have hcall := getints_s wr ((encInts l).take j) A' cb sz (by rw [List.length_take]; omega) (by rw [List.length_take]; omega) _ _ _ (HP.out j (by omega))
            rw [List.length_take, Nat.min_eq_left (by omega)] at hcall
            refine hcall.mono ?_
            clear hcall
            rintro e w8 ⟨A5, c5, rfl, _, _, hb2⟩
            go_wp2_with fail
            go_roundw
            case rel => exact ⟨j + 1, hlt, by go_num, below_then hb1 hb1.size hb2⟩
            case measure => simp only [intOf]; omega
          · have hd1 : decide ((j : Int) < (((encInts l).length : Nat) : Int)) = false := by simp; omega
            go_wp2_with fail
            go_roundw
            case rel => exact ⟨3, by omega, by go_num, below_then hb hb.size hb1⟩
            case measure => simp only [intOf]; omega
      · by_cases hm : 500 < (encStrs x).length
        · have hm1 : decide ((500 : Int) < ((encStrs x).length : Int)) = true := by simp; omega
          have hcl := cell_z (harr.below hb) (j := 3) rfl
          have hpre := fun (j : Nat) (hj : j < (encStrs x).length) => strs_prefix x (by omega) (fun y hy => by have := HXS.out y hy; omega) j (by omega)
          have HP := Lib.hid hpre
          clear hpre
          have sx := so.below hb
          go_wp2_with fail
          obtain ⟨wo, hwo⟩ : ∃ wo, wo = wr := ⟨_, rfl⟩
          subst hwo
          go_loopw [57] (fun i wr => ∃ j : Nat, j ≤ 500 ∧ i = .int .i64 j ∧ Below wo.heap.size wo wr) (fun i _ => 500 - (intOf i).toNat)
          case atStart => exact ⟨0, Nat.zero_le _, rfl, Below.refl _ _⟩
          case round =>
            obtain ⟨j, hj, rfl, hb1⟩ := hrel
            replace sx := sx.below hb1
            by_cases hlt : j < 500
            · have hd1 : decide ((j : Int) < (500 : Int)) = true := by simp; omega
              go_wp2_with (refine op_cut 0 j sx 28 5 _ _ _ _ _ rfl rfl Try.underlying28 siz_u8 rfl rfl hco (.inr ⟨rfl, rfl⟩) (.inl rfl) ?_ ?_ ?_; omega; omega; intro A' sy)
              have sz : Seg wr A' (((encStrs x).take j).map fu8) := sy
              have hcall := getstrs_s wr ((encStrs x).take j) A' co sz (by rw [List.length_take]; omega) (by rw [List.length_take]; omega) _ _ _ (HP.out j (by omega))
              rw [List.length_take, Nat.min_eq_left (by omega)] at hcall
              refine hcall.mono ?_
              clear hcall
              rintro e w8 ⟨A5, c5, rfl, _, _, hb2⟩
              go_wp2_with fail
              go_roundw
              case rel => exact ⟨j + 1, hlt, by go_num, below_then hb1 hb1.size hb2⟩
              case measure => simp only [intOf]; omega
            · have hd1 : decide ((j : Int) < (500 : Int)) = false := by simp; omega
              go_wp2_with fail
              go_roundw
              case rel => exact ⟨4, by omega, by go_num, below_then hb hb.size hb1⟩
              case measure => simp only [intOf]; omega
        · have hm1 : decide ((500 : Int) < ((encStrs x).length : Int)) = false := by simp; omega
          have hcl := cell_z (harr.below hb) (j := 3) rfl
          have hpre := fun (j : Nat) (hj : j < (encStrs x).length) => strs_prefix x (by omega) (fun y hy => by have := HXS.out y hy; omega) j (by omega)
          have HP := Lib.hid hpre
          clear hpre
          have sx := so.below hb
          go_wp2_with fail
          obtain ⟨wo, hwo⟩ : ∃ wo, wo = wr := ⟨_, rfl⟩
          subst hwo
          go_loopw [57] (fun i wr => ∃ j : Nat, j ≤ (encStrs x).length ∧ i = .int .i64 j ∧ Below wo.heap.size wo wr) (fun i _ => (encStrs x).length - (intOf i).toNat)
          case atStart => exact ⟨0, Nat.zero_le _, rfl, Below.refl _ _⟩
          case round =>
            obtain ⟨j, hj, rfl, hb1⟩ := hrel
            replace sx := sx.below hb1
            by_cases hlt : j < (encStrs x).length
            · have hd1 : decide ((j : Int) < (((encStrs x).length : Nat) : Int)) = true := by simp; omega
              go_wp2_with (refine op_cut 0 j sx 28 5 _ _ _ _ _ rfl rfl Try.underlying28 siz_u8 rfl rfl hco (.inr ⟨rfl, rfl⟩) (.inl rfl) ?_ ?_ ?_; omega; omega; intro A' sy)
              have sz : Seg wr A' (((encStrs x).take j).map fu8) := sy
              have hcall := getstrs_s wr ((encStrs x).take j) A' co sz (by rw [List.length_take]; omega) (by rw [List.length_take]; omega) _ _ _ (HP.out j (by omega))
              rw [List.length_take, Nat.min_eq_left (by omega)] at hcall
              refine hcall.mono ?_
              clear hcall
              rintro e w8 ⟨A5, c5, rfl, _, _, hb2⟩
              go_wp2_with fail
              go_roundw
              case rel => exact ⟨j + 1, hlt, by go_num, below_then hb1 hb1.size hb2⟩
              case measure => simp only [intOf]; omega
            · have hd1 : decide ((j : Int) < (((encStrs x).length : Nat) : Int)) = false := by simp; omega
              go_wp2_with fail
              go_roundw
              case rel => exact ⟨4, by omega, by go_num, below_then hb hb.size hb1⟩
              case measure => simp only [intOf]; omega
      · skip
        have hcl := cell_z (harr.below hb) (j := 4) rfl
        have hpre := fun (j : Nat) (hj : j < (encDigs d).length) => digs_prefix d H16.out (by omega) j (by omega)
        have HP := Lib.hid hpre
        clear hpre
        have sx := sc.below hb
        go_wp2_with fail
        obtain ⟨wo, hwo⟩ : ∃ wo, wo = wr := ⟨_, rfl⟩
        subst hwo
        go_loopw [57] (fun i wr => ∃ j : Nat, j ≤ (encDigs d).length ∧ i = .int .i64 j ∧ Below wo.heap.size wo wr) (fun i _ => (encDigs d).length - (intOf i).toNat)
        case atStart => exact ⟨0, Nat.zero_le _, rfl, Below.refl _ _⟩
        case round =>
          obtain ⟨j, hj, rfl, hb1⟩ := hrel
          replace sx := sx.below hb1
          by_cases hlt : j < (encDigs d).length
          · have hd1 : decide ((j : Int) < (((encDigs d).length : Nat) : Int)) = true := by simp; omega
            go_wp2_with (refine op_cut 0 j sx 28 5 _ _ _ _ _ rfl rfl Try.underlying28 siz_u8 rfl rfl hcc (.inr ⟨rfl, rfl⟩) (.inl rfl) ?_ ?_ ?_; omega; omega; intro A' sy)
            have sz : Seg wr A' (((encDigs d).take j).map fu8) := sy
            have hcall := getdigs_s wr ((encDigs d).take j) A' cc sz (by rw [List.length_take]; omega) (by rw [List.length_take]; omega) _ _ _ (HP.out j (by omega))
            rw [List.length_take, Nat.min_eq_left (by omega)] at hcall
            refine hcall.mono ?_
            clear hcall
            rintro e w8 ⟨A5, c5, rfl, _, _, hb2⟩
            go_wp2_with fail
            go_roundw
            case rel => exact ⟨j + 1, hlt, by go_num, below_then hb1 hb1.size hb2⟩
            case measure => simp only [intOf]; omega
          · have hd1 : decide ((j : Int) < (((encDigs d).length : Nat) : Int)) = false := by simp; omega
            go_wp2_with fail
            go_roundw
            case rel => exact ⟨5, by omega, by go_num, below_then hb hb.size hb1⟩
            case measure => simp only [intOf]; omega
      · go_wp2_with fail
        refine (sanity_s _).mono ?_
        rintro e w9 ⟨rfl, hb9⟩
        go_wp2_with fail
        go_ret
        exact ⟨rfl, below_then (below_then hB hB.size hb) (below_then hB hB.size hb).size hb9⟩
  · rw [decide_eq_false htt] at hfew
    have HF := Lib.hid hfew
    clear hfew
    go_enter Try.func9, Try.ntmps9
    go_wp2_with fail
    refine HF.out.mono ?_
    rintro e w1 ⟨rfl, hB⟩
    go_wp2_with fail
    refine (sanity_s _).mono ?_
    rintro e w2 ⟨rfl, hb⟩
    go_wp2_with fail
    go_ret
    exact ⟨rfl, below_then hB hB.size hb⟩
end Go.Proofs.Ytdmindmelaemjaa
