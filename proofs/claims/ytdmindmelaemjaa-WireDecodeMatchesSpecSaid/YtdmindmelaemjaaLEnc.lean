/- custodylaw01.WireEncodeMatchesSpec returns true whenever its arguments are of moderate size; nothing that was there turns. -/
import Derived.Test.YtdmindmelaemjaaWSan
namespace Go.Proofs.Ytdmindmelaemjaa
open Go.RowKit
/-- How many strings, and bytes in them. -/
def tot (l : List ByteArray) : Nat := l.length + (l.map ByteArray.size).sum
def tots (l : List ByteArray) (k : Nat) : Nat := l.length + ((l.take k).map ByteArray.size).sum
theorem tots_step (l : List ByteArray) (k : Nat) (x : ByteArray) (h : l[k]? = some x) : tots l (k + 1) = tots l k + x.size := by
  simp [tots, List.take_add_one, h]
  omega
theorem tots_end (l : List ByteArray) (k : Nat) (h : l.length ≤ k) : tots l k = tot l := by rw [tots, List.take_of_length_le h, tot]
theorem sum_take_le (l : List Nat) (k : Nat) : (l.take k).sum ≤ l.sum := by
  induction l generalizing k with
  | nil => simp
  | cons a l ih =>
    cases k with
    | zero => simp
    | succ k => have := ih k; simp; omega
theorem tots_le (l : List ByteArray) (k : Nat) : tots l k ≤ tot l := by
  have := sum_take_le (l.map ByteArray.size) k
  rw [← List.map_take] at this
  simp only [tots, tot]
  omega
set_option maxRecDepth 100000 in
set_option maxHeartbeats 400000 in
theorem few_any (l : List ByteArray) (A : Option Addr) (c : Nat) (w : World) (hS : Seg w A (l.map fstr)) (hl : tot l ≤ 1048576) :
    Calls Try.prog 11 #[.slice A l.length c] w (RetV (.bool (decide (tot l ≤ 2000))) w) := by
  have hn : l.length ≤ 1048576 := Nat.le_trans (by unfold tot; omega) hl
  go_enter Try.func11, Try.ntmps11
  go_wp2
  go_loop [3, 10] (fun n i => ∃ k : Nat, k ≤ l.length ∧ i = .int .i64 k ∧ n = .int .i64 (tots l k : Nat)) (fun _ i => l.length - (intOf i).toNat)
  case atStart => exact ⟨0, Nat.zero_le _, rfl, by simp [tots]⟩
  case round =>
    obtain ⟨k, hk, rfl, rfl⟩ := hrel
    have hk1 := tots_le l k
    by_cases hlt : k < l.length
    · obtain ⟨x, hx⟩ := get_of l k hlt
      have hd1 : decide ((k : Int) < (l.length : Int)) = true := by simp; omega
      have hd2 : decide (k < l.length) = true := by simp; omega
      obtain ⟨ad, rfl, hc⟩ := hS.at_ (map_at fstr hx)
      unfold fstr at hc
      have hst := tots_step l k x hx
      have hk2 := tots_le l (k + 1)
      have hxs : x.size ≤ 1048576 := by omega
      have HST := Lib.hid hst
      clear hst hx
      go_wp2
      exact ⟨⟨k + 1, hlt, by go_num, by rw [HST.out]; go_num⟩, by simp only [intOf]; omega⟩
    · have hd1 : decide ((k : Int) < (l.length : Int)) = false := by simp; omega
      have hd2 : decide (k < l.length) = false := by simp; omega
      rw [tots_end l k (by omega)]
      by_cases ht : tot l ≤ 2000
      · have h1 : decide ((tot l : Int) ≤ 2000) = true := by simp; omega
        have h2 : decide (tot l ≤ 2000) = true := by simp; omega
        go_wp2
        go_ret
        exact ⟨rfl, Below.refl _ _⟩
      · have h1 : decide ((tot l : Int) ≤ 2000) = false := by simp; omega
        have h2 : decide (tot l ≤ 2000) = false := by simp; omega
        go_wp2
        go_ret
        exact ⟨rfl, Below.refl _ _⟩
theorem encStrs_le (l : List ByteArray) : (encStrs l).length ≤ 9 + 9 * l.length + tot l := by
  have h2 : (l.flatMap encBytes).length ≤ 9 * l.length + (l.map ByteArray.size).sum := by
    induction l with
    | nil => exact Nat.zero_le _
    | cons a l ih =>
      have ha := encInt_le a.size
      have hb := ih
      have hc : (encBytes a).length = (encInt a.size).length + a.size := by rw [encBytes, List.length_append, bl_len]
      simp only [List.flatMap_cons, List.length_append, List.length_cons, List.map_cons, List.sum_cons]
      omega
  have h1 := encInt_le l.length
  simp only [encStrs, List.length_append, tot]
  omega
theorem encInts_le (l : List Int) : (encInts l).length ≤ 9 + 9 * l.length := by
  have h := ep_int_le l l.length (Nat.le_refl _)
  rw [ep_end encInt l l.length (Nat.le_refl _)] at h
  exact h
theorem encDigs_le (l : List (List UInt8)) (h16 : ∀ e ∈ l, e.length = 16) : (encDigs l).length ≤ 9 + 16 * l.length := by
  have h1 := encInt_le l.length
  have h2 := flat_len 16 l h16
  simp only [encDigs, List.length_append, h2]
  omega
theorem sanity_s (w : World) : Calls Try.prog 12 #[] w (RetV (.bool true) w) := sanity_any w
set_option maxRecDepth 100000 in
set_option maxHeartbeats 4000000 in
theorem walk_enc (n : Int) (hn0 : -9223372036854775808 ≤ n) (hn1 : n ≤ 9223372036854775807) (s : ByteArray) (hs : s.size ≤ 1048576)
    (l : List Int) (A2 : Option Addr) (c2 : Nat) (x : List ByteArray) (A3 : Option Addr) (c3 : Nat) (d : List (List UInt8)) (A4 : Option Addr) (c4 : Nat) (w : World)
    (h2 : Seg w A2 (l.map fint)) (hI : InI l) (hl : l.length ≤ 1048576) (h3 : Seg w A3 (x.map fstr)) (hx : tot x ≤ 1048576) (h4 : Seg w A4 (d.flatten.map fu8)) (h16 : ∀ e ∈ d, e.length = 16) (hd : d.length ≤ 1048576) :
    Calls Try.prog 3 #[.int .i64 n, .string s, .slice A2 l.length c2, .slice A3 x.length c3, .slice A4 d.length c4] w (RetV (.bool true) w) := by
  have HI := Lib.hid hI
  have H16 := Lib.hid h16
  clear hI h16
  have hxl : x.length ≤ 1048576 := Nat.le_trans (by unfold tot; omega) hx
  by_cases hbig : 2000 < s.size + l.length + d.length
  · have hb1 : decide ((2000 : Int) < (s.size : Int) + (l.length : Int) + (d.length : Int)) = true := by simp; omega
    go_enter Try.func3, Try.ntmps3
    go_wp2_with fail
    refine (sanity_s _).mono ?_
    rintro e w1 ⟨rfl, hb⟩
    go_wp2_with fail
    go_ret
    exact ⟨rfl, hb⟩
  have hb1 : decide ((2000 : Int) < (s.size : Int) + (l.length : Int) + (d.length : Int)) = false := by simp; omega
  have hfew := few_any x A3 c3 w h3 hx
  by_cases ht : tot x ≤ 2000
  · rw [decide_eq_true ht] at hfew
    have hes := encStrs_le x
    have HF := Lib.hid hfew
    have hxl2 : x.length ≤ 2000 := Nat.le_trans (by unfold tot; omega) ht
    clear hfew
    go_enter Try.func3, Try.ntmps3
    go_wp2_with fail
    refine HF.out.mono ?_
    rintro e w1 ⟨rfl, hB⟩
    replace h2 := h2.below hB
    replace h3 := h3.below hB
    replace h4 := h4.below hB
    go_wp2_with fail
    refine (sanity_s _).mono ?_
    rintro e w2 ⟨rfl, hb⟩
    replace hB := below_then hB hB.size hb
    replace h2 := h2.below hb
    replace h3 := h3.below hb
    replace h4 := h4.below hb
    clear hb
    go_wp2_with fail
    refine (int_s _ n hn0 hn1).mono ?_
    rintro e w3 ⟨Ap, cp, rfl, _, sp, hb⟩
    replace hB := below_then hB hB.size hb
    replace h2 := h2.below hb
    replace h3 := h3.below hb
    replace h4 := h4.below hb
    clear hb
    go_wp2_with fail
    refine (rint_s _ n hn0 hn1).mono ?_
    rintro e w4 ⟨Ar, cr, rfl, _, sr, hb⟩
    replace hB := below_then hB hB.size hb
    replace h2 := h2.below hb
    replace h3 := h3.below hb
    replace h4 := h4.below hb
    replace sp := sp.below hb
    clear hb
    go_wp2_with fail
    refine (same_t _ _ _ Ap Ar cp cr sp sr (by have := encInt_le n; omega) rfl).mono ?_
    rintro e w5 ⟨rfl, hb⟩
    replace hB := below_then hB hB.size hb
    clear sp
    clear sr
    replace h2 := h2.below hb
    replace h3 := h3.below hb
    replace h4 := h4.below hb
    clear hb
    go_wp2_with fail
    refine (bytes_s _ s (by omega)).mono ?_
    rintro e w6 ⟨Ap, cp, rfl, _, sp, hb⟩
    replace hB := below_then hB hB.size hb
    replace h2 := h2.below hb
    replace h3 := h3.below hb
    replace h4 := h4.below hb
    clear hb
    go_wp2_with fail
    refine (rbytes_s _ s (by omega)).mono ?_
    rintro e w7 ⟨Ar, cr, rfl, _, sr, hb⟩
    replace hB := below_then hB hB.size hb
    replace h2 := h2.below hb
    replace h3 := h3.below hb
    replace h4 := h4.below hb
    replace sp := sp.below hb
    clear hb
    go_wp2_with fail
    refine (same_t _ _ _ Ap Ar cp cr sp sr (by have := encInt_le s.size; simp only [encBytes, List.length_append, bl_len]; omega) rfl).mono ?_
    rintro e w8 ⟨rfl, hb⟩
    replace hB := below_then hB hB.size hb
    clear sp
    clear sr
    replace h2 := h2.below hb
    replace h3 := h3.below hb
    replace h4 := h4.below hb
    clear hb
    go_wp2_with fail
    refine (ints_s _ l A2 c2 h2 HI.out (by omega)).mono ?_
    rintro e w9 ⟨Ap, cp, rfl, _, sp, hb⟩
    replace hB := below_then hB hB.size hb
    replace h2 := h2.below hb
    replace h3 := h3.below hb
    replace h4 := h4.below hb
    clear hb
    go_wp2_with fail
    refine (rints_s _ l A2 c2 h2 HI.out (by omega)).mono ?_
    rintro e w10 ⟨Ar, cr, rfl, _, sr, hb⟩
    replace hB := below_then hB hB.size hb
    replace h2 := h2.below hb
    replace h3 := h3.below hb
    replace h4 := h4.below hb
    replace sp := sp.below hb
    clear hb
    go_wp2_with fail
    refine (same_t _ _ _ Ap Ar cp cr sp sr (by have := encInts_le l; omega) rfl).mono ?_
    rintro e w11 ⟨rfl, hb⟩
    replace hB := below_then hB hB.size hb
    clear sp
    clear sr
    replace h2 := h2.below hb
    replace h3 := h3.below hb
    replace h4 := h4.below hb
    clear hb
    go_wp2_with fail
    refine (strs_s _ x A3 c3 h3 (by omega) (by omega)).mono ?_
    rintro e w12 ⟨Ap, cp, rfl, _, sp, hb⟩
    replace hB := below_then hB hB.size hb
    replace h2 := h2.below hb
    replace h3 := h3.below hb
    replace h4 := h4.below hb
    clear hb
    go_wp2_with fail
    refine (rstrs_s _ x A3 c3 h3 (by omega) (by omega)).mono ?_
    rintro e w13 ⟨Ar, cr, rfl, _, sr, hb⟩
    replace hB := below_then hB hB.size hb
    replace h2 := h2.below hb
    replace h3 := h3.below hb
    replace h4 := h4.below hb
    replace sp := sp.below hb
    clear hb
    go_wp2_with fail
    refine (same_t _ _ _ Ap Ar cp cr sp sr (by omega) rfl).mono ?_
    rintro e w14 ⟨rfl, hb⟩
    replace hB := below_then hB hB.size hb
    clear sp
    clear sr
    replace h2 := h2.below hb
    replace h3 := h3.below hb
    replace h4 := h4.below hb
    clear hb
    go_wp2_with fail
    refine (digs_s _ d A4 c4 h4 H16.out (by omega)).mono ?_
    rintro e w15 ⟨Ap, cp, rfl, _, sp, hb⟩
    replace hB := below_then hB hB.size hb
    replace h2 := h2.below hb
    replace h3 := h3.below hb
    replace h4 := h4.below hb
    clear hb
    go_wp2_with fail
    refine (rdigs_s _ d A4 c4 h4 H16.out (by omega)).mono ?_
    rintro e w16 ⟨Ar, cr, rfl, _, sr, hb⟩
    replace hB := below_then hB hB.size hb
    replace h2 := h2.below hb
    replace h3 := h3.below hb
    replace h4 := h4.below hb
    replace sp := sp.below hb
    clear hb
    go_wp2_with fail
    refine (same_t _ _ _ Ap Ar cp cr sp sr (by have := encDigs_le d H16.out; omega) rfl).mono ?_
    rintro e w17 ⟨rfl, hb⟩
    replace hB := below_then hB hB.size hb
    clear sp
    clear sr
    replace h2 := h2.below hb
    replace h3 := h3.below hb
    replace h4 := h4.below hb
    clear hb
    go_wp2_with fail
    go_ret
    exact ⟨rfl, hB⟩
  · rw [decide_eq_false ht] at hfew
    have HF := Lib.hid hfew
    clear hfew
    go_enter Try.func3, Try.ntmps3
    go_wp2_with fail
    refine HF.out.mono ?_
    rintro e w1 ⟨rfl, hB⟩
    go_wp2_with fail
    refine (sanity_s _).mono ?_
    rintro e w2 ⟨rfl, hb⟩
    go_wp2_with fail
    go_ret
    exact ⟨rfl, below_then hB hB.size hb⟩
end Go.Proofs.Ytdmindmelaemjaa
