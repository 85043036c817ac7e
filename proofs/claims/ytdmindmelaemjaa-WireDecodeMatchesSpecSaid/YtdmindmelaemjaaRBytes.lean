/- custodyref01.GetBytes computes decBytes. -/
import Derived.Test.YtdmindmelaemjaaRCnt
namespace Go.Proofs.Ytdmindmelaemjaa
open Go.RowKit
set_option maxRecDepth 100000 in
set_option maxHeartbeats 1000000 in
theorem rgetbytes_s (b : List UInt8) (A : Option Addr) (c : Nat) (w : World) (hS : Seg w A (b.map fu8)) (hcap : b.length ≤ c) (hl : b.length ≤ 1048576) (s : ByteArray) (u er : Int) (hd : decBytes b = (s, u, er)) :
    Calls Try.prog 27 #[.slice A b.length c] w (RetV (.tuple #[.string s, .int .i64 u, .int .i64 er]) w) := by
  obtain ⟨⟨n, at_, e⟩, hc⟩ : ∃ r, decCnt b 1 = r := ⟨_, rfl⟩
  by_cases he : e = 0
  · subst he
    obtain ⟨N, U, rfl, rfl, h1, h2, h3, _⟩ := decCnt_ok b 1 n at_ (by decide) hc
    rw [decBytes, hc, if_neg (by simp)] at hd
    simp only [Prod.mk.injEq] at hd
    obtain ⟨rfl, rfl, rfl⟩ := hd
    rw [Nat.mul_one] at h3
    have HC := Lib.hid hc
    clear hc
    go_enter Try.func27, Try.ntmps27
    go_wp2_with fail
    refine (rcount_s b 1 (by decide) (by decide) A c w hS hcap hl _ _ _ HC.out).mono ?_
    rintro e w1 ⟨rfl, hb⟩
    have hS1 := hS.below hb
    have HS := Lib.hid hS1
    clear hS hS1
    go_wp2_with (first
      | (refine op_cut U (U + N) HS.out 28 5 _ _ (.tmp 17) _ _ rfl rfl Try.underlying28 siz_u8 rfl rfl ?_ (.inl rfl) (.inl rfl) ?_ ?_ ?_; omega; omega; omega; intro A' hS2; have HS2 := Lib.hid hS2; clear hS2)
      | (refine op_str HS2.out ?_ (.tmp 22) 28 9 5 rfl rfl Try.underlying28 Try.underlying5 Try.underlying9 rfl ?_; (rw [List.length_take, List.length_drop]; omega)))
    go_ret3
    refine ⟨?_, hb⟩
    simp
  · rw [decBytes, hc, if_pos he] at hd
    simp only [Prod.mk.injEq] at hd
    obtain ⟨rfl, rfl, rfl⟩ := hd
    have he2 : (e != 0) = true := by simpa using he
    have HC := Lib.hid hc
    clear he hc
    go_enter Try.func27, Try.ntmps27
    go_wp2_with fail
    refine (rcount_s b 1 (by decide) (by decide) A c w hS hcap hl _ _ _ HC.out).mono ?_
    rintro e w1 ⟨rfl, hb⟩
    go_wp2_with fail
    go_ret3
    exact ⟨rfl, hb⟩
end Go.Proofs.Ytdmindmelaemjaa
