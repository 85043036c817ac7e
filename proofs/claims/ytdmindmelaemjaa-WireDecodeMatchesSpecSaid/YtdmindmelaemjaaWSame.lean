import Derived.Test.YtdmindmelaemjaaWGet
import Derived.Deep.QuietTactic
import Derived.BigQuiet
namespace Go.Proofs.Ytdmindmelaemjaa
open Go.RowKit
theorem str_ext {x y : ByteArray} (h : x.toList = y.toList) : x = y := by
  rw [ByteArray.toList_eq, ByteArray.toList_eq] at h
  exact ByteArray.ext (Array.toList_inj.1 h)
theorem ret_b {a b : Bool} (h : a = b) : Ending.returned (.bool a) = Ending.returned (.bool b) := by rw [h]
set_option maxRecDepth 100000 in
set_option maxHeartbeats 400000 in
theorem same_any (xs ys : List UInt8) (A B : Option Addr) (c d : Nat) (w : World) (hA : Seg w A (xs.map fu8)) (hB : Seg w B (ys.map fu8)) (hl : xs.length ≤ 140737488351232) :
    Calls Try.prog 13 #[.slice A xs.length c, .slice B ys.length d] w fun e w' => ∃ m, e = .returned (.bool (decide (xs = ys))) ∧ w' = w.drewN m := by
  have HA := Lib.hid hA
  have HB := Lib.hid hB
  clear hA hB
  by_cases hlen : xs.length = ys.length
  · have h1 : ((xs.length : Int) != (ys.length : Int)) = false := by simp [hlen]
    have h2 : (xs.length != ys.length) = false := by simp [hlen]
    have HL := Lib.hid hlen
    clear hlen
    go_enter Try.func13, Try.ntmps13
    go_wp2
    go_loopw [5] (fun i wr => ∃ k m : Nat, k ≤ xs.length ∧ i = .int .i64 k ∧ Hid (xs.take k = ys.take k) ∧ wr = w.drewN m) (fun i _ => xs.length - (intOf i).toNat)
    case atStart => exact ⟨0, 0, Nat.zero_le _, rfl, by simp [Hid], rfl⟩
    case round =>
      clear h1 h2
      obtain ⟨k, m, hk, rfl, heq, rfl⟩ := hrel
      by_cases hlt : k < xs.length
      · obtain ⟨x, hx⟩ := get_of xs k hlt
        obtain ⟨y, hy⟩ := get_of ys k (by rw [← HL.out]; exact hlt)
        obtain ⟨ad, rfl, hcx⟩ := HA.out.at_ (map_at fu8 hx)
        obtain ⟨bd, rfl, hcy⟩ := HB.out.at_ (map_at fu8 hy)
        unfold fu8 at hcx hcy
        have hd1 : decide ((k : Int) < (xs.length : Int)) = true := by simp; omega
        have hd2 : decide (k < xs.length) = true := by simp; omega
        have hk2 : (k : Int) < (ys.length : Int) := by have := HL.out; omega
        have HX := Lib.hid hx
        have HY := Lib.hid hy
        clear hx hy
        by_cases hxy : x = y
        · have ht1 : ((x.toNat : Int) != (y.toNat : Int)) = false := by simp [hxy]
          have ht2 : (x.toNat != y.toNat) = false := by simp [hxy]
          have HXY := Lib.hid hxy
          clear hxy
          go_wp2
          repeat (go_quiet (fail); try go_wp2)
          go_roundw
          case rel => exact ⟨k + 1, _, hlt, by go_num, by show _ = _; rw [List.take_add_one, List.take_add_one, HX.out, HY.out, HXY.out, heq.out], rfl⟩
          case measure => simp only [intOf]; omega
        · have ht1 : ((x.toNat : Int) != (y.toNat : Int)) = true := by rw [bne_iff_ne]; intro hh; exact hxy (UInt8.toNat_inj.1 (by omega))
          have ht2 : (x.toNat != y.toNat) = true := by rw [bne_iff_ne]; intro hh; exact hxy (UInt8.toNat_inj.1 hh)
          have HXY := Lib.hid hxy
          clear hxy
          go_wp2
          repeat (go_quiet (fail); try go_wp2)
          go_ret
          exact ⟨_, ret_b (decide_eq_false (fun hh => HXY.out (by rw [hh] at HX; exact Option.some.inj (HX.out.symm.trans HY.out)))).symm, by first | rfl | exact World.drewN_drewN ..⟩
      · have hd1 : decide ((k : Int) < (xs.length : Int)) = false := by simp; omega
        have hd2 : decide (k < xs.length) = false := by simp; omega
        go_wp2
        go_ret
        exact ⟨_, ret_b (decide_eq_true (by have := heq.out; rwa [List.take_of_length_le (by omega), List.take_of_length_le (by have := HL.out; omega)] at this)).symm, rfl⟩
  · have h1 : ((xs.length : Int) != (ys.length : Int)) = true := by rw [bne_iff_ne]; omega
    have h2 : (xs.length != ys.length) = true := by simpa using hlen
    have HL := Lib.hid hlen
    clear hlen
    go_enter Try.func13, Try.ntmps13
    go_wp2
    go_ret
    exact ⟨0, ret_b (decide_eq_false (fun hh => HL.out (by rw [hh]))).symm, rfl⟩
set_option maxRecDepth 100000 in
set_option maxHeartbeats 400000 in
theorem samei_any (xs ys : List Int) (A B : Option Addr) (c d : Nat) (w : World) (hA : Seg w A (xs.map fint)) (hB : Seg w B (ys.map fint)) (hl : xs.length ≤ 140737488351232) :
    Calls Try.prog 30 #[.slice A xs.length c, .slice B ys.length d] w fun e w' => ∃ m, e = .returned (.bool (decide (xs = ys))) ∧ w' = w.drewN m := by
  have HA := Lib.hid hA
  have HB := Lib.hid hB
  clear hA hB
  by_cases hlen : xs.length = ys.length
  · have h1 : ((xs.length : Int) != (ys.length : Int)) = false := by simp [hlen]
    have h2 : (xs.length != ys.length) = false := by simp [hlen]
    have HL := Lib.hid hlen
    clear hlen
    go_enter Try.func30, Try.ntmps30
    go_wp2
    go_loopw [5] (fun i wr => ∃ k m : Nat, k ≤ xs.length ∧ i = .int .i64 k ∧ Hid (xs.take k = ys.take k) ∧ wr = w.drewN m) (fun i _ => xs.length - (intOf i).toNat)
    case atStart => exact ⟨0, 0, Nat.zero_le _, rfl, by simp [Hid], rfl⟩
    case round =>
      clear h1 h2
      obtain ⟨k, m, hk, rfl, heq, rfl⟩ := hrel
      by_cases hlt : k < xs.length
      · obtain ⟨x, hx⟩ := get_of xs k hlt
        obtain ⟨y, hy⟩ := get_of ys k (by rw [← HL.out]; exact hlt)
        obtain ⟨ad, rfl, hcx⟩ := HA.out.at_ (map_at fint hx)
        obtain ⟨bd, rfl, hcy⟩ := HB.out.at_ (map_at fint hy)
        unfold fint at hcx hcy
        have hd1 : decide ((k : Int) < (xs.length : Int)) = true := by simp; omega
        have hd2 : decide (k < xs.length) = true := by simp; omega
        have hk2 : (k : Int) < (ys.length : Int) := by have := HL.out; omega
        have HX := Lib.hid hx
        have HY := Lib.hid hy
        clear hx hy
        by_cases hxy : x = y
        · have ht1 : (x != y) = false := by simp [hxy]
          have HXY := Lib.hid hxy
          clear hxy
          go_wp2
          repeat (go_quiet (fail); try go_wp2)
          go_roundw
          case rel => exact ⟨k + 1, _, hlt, by go_num, by show _ = _; rw [List.take_add_one, List.take_add_one, HX.out, HY.out, HXY.out, heq.out], rfl⟩
          case measure => simp only [intOf]; omega
        · have ht1 : (x != y) = true := by rw [bne_iff_ne]; exact hxy
          have HXY := Lib.hid hxy
          clear hxy
          go_wp2
          repeat (go_quiet (fail); try go_wp2)
          go_ret
          exact ⟨_, ret_b (decide_eq_false (fun hh => HXY.out (by rw [hh] at HX; exact Option.some.inj (HX.out.symm.trans HY.out)))).symm, by first | rfl | exact World.drewN_drewN ..⟩
      · have hd1 : decide ((k : Int) < (xs.length : Int)) = false := by simp; omega
        have hd2 : decide (k < xs.length) = false := by simp; omega
        go_wp2
        go_ret
        exact ⟨_, ret_b (decide_eq_true (by have := heq.out; rwa [List.take_of_length_le (by omega), List.take_of_length_le (by have := HL.out; omega)] at this)).symm, rfl⟩
  · have h1 : ((xs.length : Int) != (ys.length : Int)) = true := by rw [bne_iff_ne]; omega
    have h2 : (xs.length != ys.length) = true := by simpa using hlen
    have HL := Lib.hid hlen
    clear hlen
    go_enter Try.func30, Try.ntmps30
    go_wp2
    go_ret
    exact ⟨0, ret_b (decide_eq_false (fun hh => HL.out (by rw [hh]))).symm, rfl⟩
set_option maxRecDepth 100000 in
set_option maxHeartbeats 400000 in
theorem sames_any (xs ys : List ByteArray) (A B : Option Addr) (c d : Nat) (w : World) (hA : Seg w A (xs.map fstr)) (hB : Seg w B (ys.map fstr)) (hl : xs.length ≤ 140737488351232) :
    Calls Try.prog 33 #[.slice A xs.length c, .slice B ys.length d] w fun e w' => ∃ m, e = .returned (.bool (decide (xs = ys))) ∧ w' = w.drewN m := by
  have HA := Lib.hid hA
  have HB := Lib.hid hB
  clear hA hB
  by_cases hlen : xs.length = ys.length
  · have h1 : ((xs.length : Int) != (ys.length : Int)) = false := by simp [hlen]
    have h2 : (xs.length != ys.length) = false := by simp [hlen]
    have HL := Lib.hid hlen
    clear hlen
    go_enter Try.func33, Try.ntmps33
    go_wp2
    go_loopw [5] (fun i wr => ∃ k m : Nat, k ≤ xs.length ∧ i = .int .i64 k ∧ Hid (xs.take k = ys.take k) ∧ wr = w.drewN m) (fun i _ => xs.length - (intOf i).toNat)
    case atStart => exact ⟨0, 0, Nat.zero_le _, rfl, by simp [Hid], rfl⟩
    case round =>
      clear h1 h2
      obtain ⟨k, m, hk, rfl, heq, rfl⟩ := hrel
      by_cases hlt : k < xs.length
      · obtain ⟨x, hx⟩ := get_of xs k hlt
        obtain ⟨y, hy⟩ := get_of ys k (by rw [← HL.out]; exact hlt)
        obtain ⟨ad, rfl, hcx⟩ := HA.out.at_ (map_at fstr hx)
        obtain ⟨bd, rfl, hcy⟩ := HB.out.at_ (map_at fstr hy)
        unfold fstr at hcx hcy
        have hd1 : decide ((k : Int) < (xs.length : Int)) = true := by simp; omega
        have hd2 : decide (k < xs.length) = true := by simp; omega
        have hk2 : (k : Int) < (ys.length : Int) := by have := HL.out; omega
        have HX := Lib.hid hx
        have HY := Lib.hid hy
        clear hx hy
        by_cases hxy : x = y
        · have ht1 : (x.toList == y.toList) = true := by simp [hxy]
          have HXY := Lib.hid hxy
          clear hxy
          go_wp2
          repeat (go_quiet (fail); try go_wp2)
          go_roundw
          case rel => exact ⟨k + 1, _, hlt, by go_num, by show _ = _; rw [List.take_add_one, List.take_add_one, HX.out, HY.out, HXY.out, heq.out], rfl⟩
          case measure => simp only [intOf]; omega
        · have ht1 : (x.toList == y.toList) = false := by rw [beq_eq_false_iff_ne]; exact fun hh => hxy (str_ext hh)
          have HXY := Lib.hid hxy
          clear hxy
          go_wp2
          repeat (go_quiet (fail); try go_wp2)
          go_ret
          exact ⟨_, ret_b (decide_eq_false (fun hh => HXY.out (by rw [hh] at HX; exact Option.some.inj (HX.out.symm.trans HY.out)))).symm, by first | rfl | exact World.drewN_drewN ..⟩
      · have hd1 : decide ((k : Int) < (xs.length : Int)) = false := by simp; omega
        have hd2 : decide (k < xs.length) = false := by simp; omega
        go_wp2
        go_ret
        exact ⟨_, ret_b (decide_eq_true (by have := heq.out; rwa [List.take_of_length_le (by omega), List.take_of_length_le (by have := HL.out; omega)] at this)).symm, rfl⟩
  · have h1 : ((xs.length : Int) != (ys.length : Int)) = true := by rw [bne_iff_ne]; omega
    have h2 : (xs.length != ys.length) = true := by simpa using hlen
    have HL := Lib.hid hlen
    clear hlen
    go_enter Try.func33, Try.ntmps33
    go_wp2
    go_ret
    exact ⟨0, ret_b (decide_eq_false (fun hh => HL.out (by rw [hh]))).symm, rfl⟩
end Go.Proofs.Ytdmindmelaemjaa
