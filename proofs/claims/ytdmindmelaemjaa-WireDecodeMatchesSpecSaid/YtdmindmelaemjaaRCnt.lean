/- custodyref01.count computes decCnt. -/
import Derived.Test.YtdmindmelaemjaaRGet
namespace Go.Proofs.Ytdmindmelaemjaa
open Go.RowKit
set_option maxRecDepth 100000 in
set_option maxHeartbeats 1000000 in
theorem rcount_s (b : List UInt8) (s : Nat) (hs : 0 < s) (hs2 : s ≤ 1000) (A : Option Addr) (c : Nat) (w : World) (hS : Seg w A (b.map fu8)) (hcap : b.length ≤ c) (hl : b.length ≤ 1048576) (n u er : Int) (hd : decCnt b s = (n, u, er)) :
    Calls Try.prog 39 #[.slice A b.length c, .int .i64 s] w (RetV (.tuple #[.int .i64 n, .int .i64 u, .int .i64 er]) w) := by
  obtain ⟨⟨n', u', e'⟩, hi⟩ : ∃ r, decInt b = r := ⟨_, rfl⟩
  have hc := decCnt_of b s n' u' e' hi
  rw [hd] at hc
  have HI := Lib.hid hi
  clear hd
  by_cases he : e' = 0
  · subst he
    obtain ⟨U, rfl, h1, h2, h3, h4, h5⟩ := decInt_ok b n' u' hi
    clear hi
    rw [if_neg (by simp)] at hc
    by_cases hn : n' < 0
    · rw [if_pos hn] at hc
      simp only [Prod.mk.injEq] at hc
      obtain ⟨rfl, rfl, rfl⟩ := hc
      have hn2 : decide (n' < 0) = true := by simpa using hn
      go_enter Try.func39, Try.ntmps39
      go_wp2_with fail
      refine (rgetint_s b A c w hS hcap hl _ _ _ HI.out).mono ?_
      rintro e w1 ⟨rfl, hb⟩
      go_wp2_with fail
      go_ret3
      exact ⟨rfl, hb⟩
    · rw [if_neg hn] at hc
      obtain ⟨N, rfl⟩ := Int.eq_ofNat_of_zero_le (by omega : 0 ≤ n')
      have hn2 : decide ((N : Int) < 0) = false := by simp
      have hiff : ((b.length : Int) - (U : Int)) / (s : Int) < (N : Int) ↔ b.length - U < N * s := by
        rw [Int.ediv_lt_iff_lt_mul (by omega : (0 : Int) < (s : Int)), ← Int.natCast_mul]
        omega
      by_cases hbig : b.length < N
      · have hb1 : decide ((b.length : Int) < (N : Int)) = true := by simp; omega
        have hb2 : decide (b.length < N) = true := by simp; omega
        have hN : N * 1 ≤ N * s := Nat.mul_le_mul_left _ hs
        rw [if_pos (hiff.2 (by omega))] at hc
        simp only [Prod.mk.injEq] at hc
        obtain ⟨rfl, rfl, rfl⟩ := hc
        go_enter Try.func39, Try.ntmps39
        go_wp2_with fail
        refine (rgetint_s b A c w hS hcap hl _ _ _ HI.out).mono ?_
        rintro e w1 ⟨rfl, hb⟩
        go_wp2_with fail
        go_ret3
        exact ⟨rfl, hb⟩
      · have hb1 : decide ((b.length : Int) < (N : Int)) = false := by simp; omega
        have hb2 : decide (b.length < N) = false := by simp; omega
        have hm : N * s ≤ 1048576 * 1000 := Nat.mul_le_mul (by omega) hs2
        obtain ⟨M, hM⟩ : ∃ M, M = N * s := ⟨_, rfl⟩
        have hMc : (N : Int) * (s : Int) = (M : Int) := by rw [hM, Int.natCast_mul]
        rw [← hM] at hiff hm
        by_cases hq : b.length - U < M
        · rw [if_pos (hiff.2 hq)] at hc
          simp only [Prod.mk.injEq] at hc
          obtain ⟨rfl, rfl, rfl⟩ := hc
          have hq1 : decide ((b.length : Int) - (U : Int) < (M : Int)) = true := by simp; omega
          clear hiff hM
          go_enter Try.func39, Try.ntmps39
          go_wp2_with fail
          refine (rgetint_s b A c w hS hcap hl _ _ _ HI.out).mono ?_
          rintro e w1 ⟨rfl, hb⟩
          go_wp2_with fail
          go_ret3
          exact ⟨rfl, hb⟩
        · rw [if_neg (fun h => hq (hiff.1 h))] at hc
          simp only [Prod.mk.injEq] at hc
          obtain ⟨rfl, rfl, rfl⟩ := hc
          have hq1 : decide ((b.length : Int) - (U : Int) < (M : Int)) = false := by simp; omega
          clear hiff hM
          go_enter Try.func39, Try.ntmps39
          go_wp2_with fail
          refine (rgetint_s b A c w hS hcap hl _ _ _ HI.out).mono ?_
          rintro e w1 ⟨rfl, hb⟩
          go_wp2_with fail
          go_ret3
          exact ⟨rfl, hb⟩
  · rw [if_pos he] at hc
    simp only [Prod.mk.injEq] at hc
    obtain ⟨rfl, rfl, rfl⟩ := hc
    have he2 : (er != 0) = true := by simpa using he
    clear he
    go_enter Try.func39, Try.ntmps39
    go_wp2_with fail
    refine (rgetint_s b A c w hS hcap hl _ _ _ HI.out).mono ?_
    rintro e w1 ⟨rfl, hb⟩
    go_wp2_with fail
    go_ret3
    exact ⟨rfl, hb⟩
end Go.Proofs.Ytdmindmelaemjaa
