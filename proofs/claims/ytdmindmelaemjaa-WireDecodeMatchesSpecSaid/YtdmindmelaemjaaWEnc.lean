import Derived.Test.YtdmindmelaemjaaWRefInt
namespace Go.Proofs.Ytdmindmelaemjaa
open Go.RowKit
def InI (l : List Int) : Prop := ∀ x ∈ l, -9223372036854775808 ≤ x ∧ x ≤ 9223372036854775807
theorem InI.at_ {l : List Int} (h : InI l) {k : Nat} {x : Int} (hx : l[k]? = some x) : -9223372036854775808 ≤ x ∧ x ≤ 9223372036854775807 := h x (List.mem_of_getElem? hx)
theorem get_of {α : Type} (l : List α) (k : Nat) (h : k < l.length) : ∃ x, l[k]? = some x := ⟨l[k], List.getElem?_eq_getElem h⟩
theorem map_at {α : Type} (f : α → Value) {l : List α} {k : Nat} {x : α} (h : l[k]? = some x) : (l.map f)[k]? = some (f x) := by rw [List.getElem?_map, h]; rfl
set_option maxRecDepth 100000 in
set_option maxHeartbeats 400000 in
theorem bytes_any (s : ByteArray) (w : World) (hs : s.size ≤ 140737488351232) :
    Calls Try.prog 16 #[.string s] w fun e w' => ∃ v, e = .returned v ∧ OwnB w' w.heap.size v (encBytes s) ∧ Below w.heap.size w w' := by
  have hn8 := encInt_le s.size
  go_enter Try.func16, Try.ntmps16
  go_wp2_with (first
    | (go_at_call 14; refine (int_any _ _ (by omega) (by omega)).mono ?_; rintro e w1 ⟨v, rfl, hown, hb⟩)
    | (at_builtin; refine app_s hown hb hb.size (by omega) (.tmp 5) (.tmp 6) rfl rfl rfl rfl ?_; intro v1 w1 hown1 hb1 hs1))
  go_ret
  exact ⟨_, rfl, hown1, hb1⟩
set_option maxRecDepth 100000 in
set_option maxHeartbeats 400000 in
theorem rbytes_any (s : ByteArray) (w : World) (hs : s.size ≤ 140737488351232) :
    Calls Try.prog 17 #[.string s] w fun e w' => ∃ v, e = .returned v ∧ OwnB w' w.heap.size v (encBytes s) ∧ Below w.heap.size w w' := by
  have hn8 := encInt_le s.size
  have hbl := bl_len s
  go_enter Try.func17, Try.ntmps17
  go_wp2_with (first
    | (go_at_call 15; refine (rint_any _ _ (by omega) (by omega)).mono ?_; rintro e w1 ⟨v, rfl, hown, hb⟩)
    | (refine op_bytes (.tmp 6) 9 28 5 rfl rfl Try.underlying9 Try.underlying28 Try.underlying5 _ rfl ?_; intro w2 c hc hS hb2)
    | (at_builtin; refine app_bs (hown.below hb2) (below_then hb hb.size hb2) (Nat.le_trans hb.size hb2.size) (by rw [bl_len]; omega) hS (bl_len _).symm (.tmp 5) (.tmp 7) rfl rfl rfl rfl ?_; intro v1 w3 hown1 hb1 hs1))
  go_ret
  exact ⟨_, rfl, hown1, hb1⟩
set_option maxRecDepth 100000 in
set_option maxHeartbeats 400000 in
theorem ints_any (l : List Int) (A : Option Addr) (c : Nat) (w : World) (hS : Seg w A (l.map fint)) (hI : InI l) (hl : l.length ≤ 1048576) :
    Calls Try.prog 18 #[.slice A l.length c] w fun e w' => ∃ v, e = .returned v ∧ OwnB w' w.heap.size v (encInts l) ∧ Below w.heap.size w w' := by
  have hn8 := encInt_le l.length
  have HS := Lib.hid hS
  have HI := Lib.hid hI
  clear hS hI
  go_enter Try.func18, Try.ntmps18
  go_wp2_with (go_at_call 14; refine (int_any _ _ (by omega) (by omega)).mono ?_; rintro e w1 ⟨v, rfl, hown, hb⟩)
  go_loopw [3, 11] (fun v i wr => ∃ k : Nat, k ≤ l.length ∧ i = .int .i64 k ∧ OwnB wr w.heap.size v (ep encInt l k) ∧ Below w.heap.size w wr) (fun _ i _ => l.length - (intOf i).toNat)
  case atStart => exact ⟨0, Nat.zero_le _, rfl, by rw [ep_zero]; exact hown, hb⟩
  case round =>
    clear hown hb hn8
    obtain ⟨k, hk, rfl, hown, hb⟩ := hrel
    by_cases hlt : k < l.length
    · obtain ⟨x, hx⟩ := get_of l k hlt
      obtain ⟨ad, rfl, hcell⟩ := (HS.out.below hb).at_ (map_at fint hx)
      have hlo := (HI.out.at_ hx).1
      have hhi := (HI.out.at_ hx).2
      have HX := Lib.hid hx
      have hle := ep_int_le l k hk
      have hxl := encInt_le x
      unfold fint at hcell
      clear hx
      go_wp2_with (first
        | (go_at_call 14; refine (int_any x _ hlo hhi).mono ?_; rintro e w1 ⟨v1, rfl, hown1, hb1⟩; obtain ⟨A1, c1, rfl, hc1, hS1⟩ := hown1.seg)
        | (at_builtin; refine app_bs (hown.below hb1) (below_then hb hb.size hb1) (Nat.le_trans hb.size hb1.size) (by omega) hS1 rfl (.tmp 15) (.tmp 17) rfl rfl rfl rfl ?_; intro v2 w2 hown2 hb2 hs2))
      go_roundw
      case rel => exact ⟨k + 1, hlt, by go_num, by rw [ep_step _ _ _ _ HX.out]; exact hown2, hb2⟩
      case measure => simp only [intOf]; omega
    · go_wp2
      go_ret
      exact ⟨_, rfl, by rw [encInts, ← ep_end encInt l k (by omega)]; exact hown, hb⟩
set_option maxRecDepth 100000 in
set_option maxHeartbeats 400000 in
theorem rints_any (l : List Int) (A : Option Addr) (c : Nat) (w : World) (hS : Seg w A (l.map fint)) (hI : InI l) (hl : l.length ≤ 1048576) :
    Calls Try.prog 19 #[.slice A l.length c] w fun e w' => ∃ v, e = .returned v ∧ OwnB w' w.heap.size v (encInts l) ∧ Below w.heap.size w w' := by
  have hn8 := encInt_le l.length
  have HS := Lib.hid hS
  have HI := Lib.hid hI
  clear hS hI
  go_enter Try.func19, Try.ntmps19
  go_wp2_with (go_at_call 15; refine (rint_any _ _ (by omega) (by omega)).mono ?_; rintro e w1 ⟨v, rfl, hown, hb⟩)
  go_loopw [3, 4] (fun v i wr => ∃ k : Nat, k ≤ l.length ∧ i = .int .i64 k ∧ OwnB wr w.heap.size v (ep encInt l k) ∧ Below w.heap.size w wr) (fun _ i _ => l.length - (intOf i).toNat)
  case atStart => exact ⟨0, Nat.zero_le _, rfl, by rw [ep_zero]; exact hown, hb⟩
  case round =>
    clear hown hb hn8
    obtain ⟨k, hk, rfl, hown, hb⟩ := hrel
    by_cases hlt : k < l.length
    · obtain ⟨x, hx⟩ := get_of l k hlt
      obtain ⟨ad, rfl, hcell⟩ := (HS.out.below hb).at_ (map_at fint hx)
      have hlo := (HI.out.at_ hx).1
      have hhi := (HI.out.at_ hx).2
      have HX := Lib.hid hx
      have hle := ep_int_le l k hk
      have hxl := encInt_le x
      unfold fint at hcell
      clear hx
      go_wp2_with (first
        | (go_at_call 15; refine (rint_any x _ hlo hhi).mono ?_; rintro e w1 ⟨v1, rfl, hown1, hb1⟩; obtain ⟨A1, c1, rfl, hc1, hS1⟩ := hown1.seg)
        | (at_builtin; refine app_bs (hown.below hb1) (below_then hb hb.size hb1) (Nat.le_trans hb.size hb1.size) (by omega) hS1 rfl (.tmp 14) (.tmp 19) rfl rfl rfl rfl ?_; intro v2 w2 hown2 hb2 hs2))
      go_roundw
      case rel => exact ⟨k + 1, hlt, by go_num, by rw [ep_step _ _ _ _ HX.out]; exact hown2, hb2⟩
      case measure => simp only [intOf]; omega
    · go_wp2
      go_ret
      exact ⟨_, rfl, by rw [encInts, ← ep_end encInt l k (by omega)]; exact hown, hb⟩
theorem bytes_le (s : ByteArray) : s.size ≤ (encBytes s).length := by rw [encBytes, List.length_append, bl_len]; omega
theorem ep_str_le (l : List ByteArray) (k : Nat) (x : ByteArray) (h : l[k]? = some x) : (ep encBytes l k).length + (encBytes x).length ≤ (encStrs l).length := by
  have h1 := ep_le encBytes l (k + 1)
  rw [ep_step _ _ _ _ h, List.length_append, ep_end encBytes l l.length (Nat.le_refl _)] at h1
  exact h1
set_option maxRecDepth 100000 in
set_option maxHeartbeats 400000 in
theorem strs_any (l : List ByteArray) (A : Option Addr) (c : Nat) (w : World) (hS : Seg w A (l.map fstr)) (hn : l.length ≤ 1048576) (hl : (encStrs l).length ≤ 140737488351232) :
    Calls Try.prog 20 #[.slice A l.length c] w fun e w' => ∃ v, e = .returned v ∧ OwnB w' w.heap.size v (encStrs l) ∧ Below w.heap.size w w' := by
  have HS := Lib.hid hS
  clear hS
  go_enter Try.func20, Try.ntmps20
  go_wp2_with (go_at_call 14; refine (int_any _ _ (by omega) (by omega)).mono ?_; rintro e w1 ⟨v, rfl, hown, hb⟩)
  go_loopw [3, 11] (fun v i wr => ∃ k : Nat, k ≤ l.length ∧ i = .int .i64 k ∧ OwnB wr w.heap.size v (ep encBytes l k) ∧ Below w.heap.size w wr) (fun _ i _ => l.length - (intOf i).toNat)
  case atStart => exact ⟨0, Nat.zero_le _, rfl, by rw [ep_zero]; exact hown, hb⟩
  case round =>
    clear hown hb
    obtain ⟨k, hk, rfl, hown, hb⟩ := hrel
    by_cases hlt : k < l.length
    · obtain ⟨x, hx⟩ := get_of l k hlt
      obtain ⟨ad, rfl, hcell⟩ := (HS.out.below hb).at_ (map_at fstr hx)
      have HX := Lib.hid hx
      have hle := ep_str_le l k x hx
      have hxl := bytes_le x
      unfold fstr at hcell
      clear hx
      go_wp2_with (first
        | (go_at_call 16; refine (bytes_any x _ (by omega)).mono ?_; rintro e w1 ⟨v1, rfl, hown1, hb1⟩; obtain ⟨A1, c1, rfl, hc1, hS1⟩ := hown1.seg)
        | (at_builtin; refine app_bs (hown.below hb1) (below_then hb hb.size hb1) (Nat.le_trans hb.size hb1.size) (by omega) hS1 rfl (.tmp 15) (.tmp 17) rfl rfl rfl rfl ?_; intro v2 w2 hown2 hb2 hs2))
      go_roundw
      case rel => exact ⟨k + 1, hlt, by go_num, by rw [ep_step _ _ _ _ HX.out]; exact hown2, hb2⟩
      case measure => simp only [intOf]; omega
    · go_wp2
      go_ret
      exact ⟨_, rfl, by rw [encStrs, ← ep_end encBytes l k (by omega)]; exact hown, hb⟩
set_option maxRecDepth 100000 in
set_option maxHeartbeats 400000 in
theorem rstrs_any (l : List ByteArray) (A : Option Addr) (c : Nat) (w : World) (hS : Seg w A (l.map fstr)) (hn : l.length ≤ 1048576) (hl : (encStrs l).length ≤ 140737488351232) :
    Calls Try.prog 21 #[.slice A l.length c] w fun e w' => ∃ v, e = .returned v ∧ OwnB w' w.heap.size v (encStrs l) ∧ Below w.heap.size w w' := by
  have HS := Lib.hid hS
  clear hS
  go_enter Try.func21, Try.ntmps21
  go_wp2_with (go_at_call 15; refine (rint_any _ _ (by omega) (by omega)).mono ?_; rintro e w1 ⟨v, rfl, hown, hb⟩)
  go_loopw [3, 4] (fun v i wr => ∃ k : Nat, k ≤ l.length ∧ i = .int .i64 k ∧ OwnB wr w.heap.size v (ep encBytes l k) ∧ Below w.heap.size w wr) (fun _ i _ => l.length - (intOf i).toNat)
  case atStart => exact ⟨0, Nat.zero_le _, rfl, by rw [ep_zero]; exact hown, hb⟩
  case round =>
    clear hown hb
    obtain ⟨k, hk, rfl, hown, hb⟩ := hrel
    by_cases hlt : k < l.length
    · obtain ⟨x, hx⟩ := get_of l k hlt
      obtain ⟨ad, rfl, hcell⟩ := (HS.out.below hb).at_ (map_at fstr hx)
      have HX := Lib.hid hx
      have hle := ep_str_le l k x hx
      have hxl := bytes_le x
      unfold fstr at hcell
      clear hx
      go_wp2_with (first
        | (go_at_call 17; refine (rbytes_any x _ (by omega)).mono ?_; rintro e w1 ⟨v1, rfl, hown1, hb1⟩; obtain ⟨A1, c1, rfl, hc1, hS1⟩ := hown1.seg)
        | (at_builtin; refine app_bs (hown.below hb1) (below_then hb hb.size hb1) (Nat.le_trans hb.size hb1.size) (by omega) hS1 rfl (.tmp 14) (.tmp 19) rfl rfl rfl rfl ?_; intro v2 w2 hown2 hb2 hs2))
      go_roundw
      case rel => exact ⟨k + 1, hlt, by go_num, by rw [ep_step _ _ _ _ HX.out]; exact hown2, hb2⟩
      case measure => simp only [intOf]; omega
    · go_wp2
      go_ret
      exact ⟨_, rfl, by rw [encStrs, ← ep_end encBytes l k (by omega)]; exact hown, hb⟩
theorem ep_dig_le (l : List (List UInt8)) (k : Nat) (hk : k ≤ l.length) (h16 : ∀ e ∈ l, e.length = 16) : (ep id l k).length ≤ 9 + 16 * k := by
  have h2 := encInt_le l.length
  have h := flat_len 16 (l.take k) (fun e he => h16 e (List.mem_of_mem_take he))
  simp only [ep, List.length_append, List.flatMap_id, List.length_take] at h ⊢
  rw [Nat.min_eq_left hk] at h
  omega
set_option maxRecDepth 100000 in
set_option maxHeartbeats 400000 in
theorem digs_any (l : List (List UInt8)) (A : Option Addr) (c : Nat) (w : World) (hS : Seg w A (l.flatten.map fu8)) (h16 : ∀ e ∈ l, e.length = 16) (hn : l.length ≤ 1048576) :
    Calls Try.prog 22 #[.slice A l.length c] w fun e w' => ∃ v, e = .returned v ∧ OwnB w' w.heap.size v (encDigs l) ∧ Below w.heap.size w w' := by
  have HS := Lib.hid hS
  have H16 := Lib.hid h16
  clear hS h16
  go_enter Try.func22, Try.ntmps22
  go_wp2_with (go_at_call 14; refine (int_any _ _ (by omega) (by omega)).mono ?_; rintro e w1 ⟨v, rfl, hown, hb⟩)
  go_loopw [3, 11] (fun v i wr => ∃ k : Nat, k ≤ l.length ∧ i = .int .i64 k ∧ OwnB wr w.heap.size v (ep id l k) ∧ Below w.heap.size w wr) (fun _ i _ => l.length - (intOf i).toNat)
  case atStart => exact ⟨0, Nat.zero_le _, rfl, by rw [ep_zero]; exact hown, hb⟩
  case round =>
    clear hown hb
    obtain ⟨k, hk, rfl, hown, hb⟩ := hrel
    by_cases hlt : k < l.length
    · obtain ⟨x, hx⟩ := get_of l k hlt
      have HX := Lib.hid hx
      have hx16 := H16.out x (List.mem_of_getElem? hx)
      have HX16 := Lib.hid hx16
      have hle := ep_dig_le l k hk H16.out
      obtain ⟨ad, rfl, hS1⟩ := (HS.out.below hb).row_some 16 (by decide) H16.out k x hx
      clear hx hx16
      go_wp2_with (first
        | (refine op_load_agg hS1 (.tmp 13) 57 _ rfl rfl Try.underlying57 rfl (by rw [List.length_map, HX16.out]; exact siz_dig) rfl ?_)
        | (refine op_store_new _ _ (.tmp 5) (.tmp 14) 57 rfl rfl rfl rfl siz_dig rfl ?_ (all_fu8 _) ?_; (simpa using HX16.out))
        | (at_builtin; refine app_bs (hown.below ((Below.refl _ _).alloc (Nat.le_refl _) _)) (hb.alloc hb.size _) (Nat.le_trans hb.size (by simp)) ?_ (seg_new _ _ _) HX16.out.symm (.tmp 15) (.tmp 16) rfl rfl rfl rfl ?_; (have := HX16.out; omega); intro v2 w2 hown2 hb2 hs2))
      go_roundw
      case rel => exact ⟨k + 1, hlt, by go_num, by rw [ep_step _ _ _ _ HX.out]; exact hown2, hb2⟩
      case measure => simp only [intOf]; omega
    · go_wp2
      go_ret
      exact ⟨_, rfl, by rw [encDigs, ← List.flatMap_id, ← ep_end id l k (by omega)]; exact hown, hb⟩
set_option maxRecDepth 100000 in
set_option maxHeartbeats 400000 in
theorem rdigs_any (l : List (List UInt8)) (A : Option Addr) (c : Nat) (w : World) (hS : Seg w A (l.flatten.map fu8)) (h16 : ∀ e ∈ l, e.length = 16) (hn : l.length ≤ 1048576) :
    Calls Try.prog 23 #[.slice A l.length c] w fun e w' => ∃ v, e = .returned v ∧ OwnB w' w.heap.size v (encDigs l) ∧ Below w.heap.size w w' := by
  have HS := Lib.hid hS
  have H16 := Lib.hid h16
  clear hS h16
  go_enter Try.func23, Try.ntmps23
  go_wp2_with (go_at_call 15; refine (rint_any _ _ (by omega) (by omega)).mono ?_; rintro e w1 ⟨v, rfl, hown, hb⟩)
  go_loopw [3, 4] (fun v i wr => ∃ k : Nat, k ≤ l.length ∧ i = .int .i64 k ∧ OwnB wr w.heap.size v (ep id l k) ∧ Below w.heap.size w wr) (fun _ i _ => l.length - (intOf i).toNat)
  case atStart => exact ⟨0, Nat.zero_le _, rfl, by rw [ep_zero]; exact hown, hb⟩
  case round =>
    clear hown hb
    obtain ⟨k, hk, rfl, hown, hb⟩ := hrel
    by_cases hlt : k < l.length
    · obtain ⟨x, hx⟩ := get_of l k hlt
      have HX := Lib.hid hx
      have hx16 := H16.out x (List.mem_of_getElem? hx)
      have HX16 := Lib.hid hx16
      have hle := ep_dig_le l k hk H16.out
      obtain ⟨ad, rfl, hS1⟩ := (HS.out.below hb).row_some 16 (by decide) H16.out k x hx
      have HS1 := Lib.hid hS1
      clear hx hx16 hS1
      obtain ⟨w0, hw0⟩ : ∃ wo : World, wo = wr := ⟨_, rfl⟩
      subst hw0
      go_wp2
      go_loopw [3, 5] (fun v i wr => ∃ j : Nat, j ≤ 16 ∧ i = .int .i64 j ∧ OwnB wr w.heap.size v (ep id l k ++ x.take j) ∧ Below w.heap.size w wr) (fun _ i _ => 16 - (intOf i).toNat)
      case atStart => exact ⟨0, Nat.zero_le _, rfl, by simpa using hown, hb⟩
      case round =>
        clear hown hb
        obtain ⟨j, hj, rfl, hown, hb⟩ := hrel
        by_cases hlt2 : j < 16
        · obtain ⟨d, hd⟩ := get_of x j (by rw [HX16.out]; exact hlt2)
          have hcell := ((HS.out.below hb).row 16 H16.out k x HX.out).cell (map_at fu8 hd)
          unfold fu8 at hcell
          have HD := Lib.hid hd
          clear hd
          have hlt3 : decide ((j : Int) < 16) = true := by simp; omega
          have hlen : (ep id l k ++ x.take j).length ≤ 16 + (9 + 16 * k) := by rw [List.length_append, List.length_take]; omega
          go_wp2_with (at_builtin; refine app_b (y := d) hown hb hb.size (by omega) (.tmp 19) (.tmp 26) rfl rfl rfl rfl ?_; intro v2 w2 hown2 hb2 hs2)
          go_roundw
          case rel => exact ⟨j + 1, hlt2, by go_num, by rw [List.take_add_one, HD.out, ← List.append_assoc]; exact hown2, hb2⟩
          case measure => simp only [intOf]; omega
        · have hj2 : j = 16 := by omega
          have hlt3 : decide ((j : Int) < 16) = false := by simp; omega
          go_wp2
          go_roundw
          case rel => exact ⟨k + 1, hlt, by go_num, by rw [ep_step _ _ _ _ HX.out]; rw [hj2, List.take_of_length_le (by rw [HX16.out]; exact Nat.le_refl _)] at hown; exact hown, hb⟩
          case measure => simp only [intOf]; omega
    · go_wp2
      go_ret
      exact ⟨_, rfl, by rw [encDigs, ← List.flatMap_id, ← ep_end id l k (by omega)]; exact hown, hb⟩
end Go.Proofs.Ytdmindmelaemjaa
