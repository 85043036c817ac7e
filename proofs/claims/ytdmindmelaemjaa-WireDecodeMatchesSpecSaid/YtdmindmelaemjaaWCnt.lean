import Derived.Test.YtdmindmelaemjaaWSameD
import Derived.Test.YtdmindmelaemjaaWDecPure2
namespace Go.Proofs.Ytdmindmelaemjaa
open Go.RowKit
set_option maxRecDepth 100000 in
set_option maxHeartbeats 400000 in
theorem count_any (b : List UInt8) (s : Nat) (hs : 0 < s) (A : Option Addr) (c : Nat) (w : World) (hS : Seg w A (b.map fu8)) (hcap : b.length ≤ c) (hl : b.length ≤ 140737488351232) (hs2 : s ≤ 1000) :
    Calls Try.prog 38 #[.slice A b.length c, .int .i64 s] w fun e w' => ∃ n u er, e = .returned (.tuple #[.int .i64 n, .int .i64 u, .int .i64 er]) ∧ (er ≠ 0 ∧ decCnt b s = (0, 0, er) ∨ er = 0 ∧ decCnt b s = (n, u, 0)) ∧ w = w' := by
  go_enter Try.func38, Try.ntmps38
  go_wp2_with fail
  refine (getint_any b A c w hS hcap hl).mono ?_
  rintro e w1 ⟨n, u, er, rfl, hd, rfl⟩
  have hc := decCnt_of b s n u er hd
  have HC := Lib.hid hc
  by_cases he : er = 0
  · subst he
    obtain ⟨U, rfl, h1, h2, h3, h4, h5⟩ := decInt_ok b n u hd
    clear hd hc
    by_cases hn : n < 0
    · have hn2 : decide (n < 0) = true := by simpa using hn
      have HN := Lib.hid hn
      go_wp2_with fail
      go_ret3
      exact ⟨_, _, _, rfl, .inl ⟨by decide, by rw [HC.out, if_neg (by simp), if_pos HN.out]⟩, rfl⟩
    · have hn2 : decide (n < 0) = false := by simpa using hn
      have hn3 : 0 ≤ n := by omega
      have HN := Lib.hid hn
      clear hn
      by_cases hq : ((b.length : Int) - (U : Int)) / (s : Int) < n
      · have hq2 : decide (((b.length : Int) - (U : Int)) / (s : Int) < n) = true := by simpa using hq
        have HQ := Lib.hid hq
        clear hq
        go_wp2_with fail
        go_ret3
        exact ⟨_, _, _, rfl, .inl ⟨by decide, by rw [HC.out, if_neg (by simp), if_neg (by have := HN.out; omega), if_pos HQ.out]⟩, rfl⟩
      · have hq2 : decide (((b.length : Int) - (U : Int)) / (s : Int) < n) = false := by simpa using hq
        have HQ := Lib.hid hq
        clear hq
        go_wp2_with fail
        go_ret3
        exact ⟨_, _, _, rfl, .inr ⟨rfl, by rw [HC.out, if_neg (by simp), if_neg (by have := HN.out; omega), if_neg (by have := HQ.out; omega)]⟩, rfl⟩
  · have he2 : (er != 0) = true := by simpa using he
    have HE := Lib.hid he
    clear he
    go_wp2_with fail
    go_ret3
    exact ⟨_, _, _, rfl, .inl ⟨HE.out, by rw [HC.out, if_pos HE.out]⟩, rfl⟩

set_option maxRecDepth 100000 in
set_option maxHeartbeats 400000 in
theorem getbytes_any (b : List UInt8) (A : Option Addr) (c : Nat) (w : World) (hS : Seg w A (b.map fu8)) (hcap : b.length ≤ c) (hl : b.length ≤ 140737488351232) :
    Calls Try.prog 26 #[.slice A b.length c] w fun e w' => ∃ s u er, e = .returned (.tuple #[.string s, .int .i64 u, .int .i64 er]) ∧ decBytes b = (s, u, er) ∧ w = w' := by
  go_enter Try.func26, Try.ntmps26
  go_wp2_with fail
  refine (count_any b 1 (by decide) A c w hS hcap hl (by decide)).mono ?_
  rintro e w1 ⟨n, u, er, rfl, hd, rfl⟩
  rcases hd with ⟨he, hd⟩ | ⟨rfl, hd⟩
  · have he2 : (er != 0) = true := by simpa using he
    have HD := Lib.hid hd
    have HE := Lib.hid he
    clear hd he
    go_wp2_with fail
    go_ret3
    exact ⟨_, _, _, rfl, by rw [decBytes, HD.out, if_pos HE.out], rfl⟩
  · obtain ⟨N, U, rfl, rfl, h1, h2, h3, _⟩ := decCnt_ok b 1 n u (by decide) hd
    have HD := Lib.hid hd
    have HS := Lib.hid hS
    clear hd hS
    rw [Nat.mul_one] at h3
    go_wp2_with (first
      | (refine op_cut U (U + N) HS.out 28 5 _ _ (.tmp 17) _ _ rfl rfl Try.underlying28 siz_u8 rfl rfl ?_ (.inl rfl) (.inl rfl) ?_ ?_ ?_; omega; omega; omega; intro A' hS2; have HS2 := Lib.hid hS2; clear hS2)
      | (refine op_str HS2.out ?_ (.tmp 22) 28 9 5 rfl rfl Try.underlying28 Try.underlying5 Try.underlying9 rfl ?_; (rw [List.length_take, List.length_drop]; omega)))
    go_ret3
    refine ⟨_, _, _, rfl, ?_, rfl⟩
    rw [decBytes, HD.out, if_neg (by simp)]
    simp
end Go.Proofs.Ytdmindmelaemjaa
