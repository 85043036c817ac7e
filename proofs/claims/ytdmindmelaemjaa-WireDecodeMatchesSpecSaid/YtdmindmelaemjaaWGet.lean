import Derived.Test.YtdmindmelaemjaaWEnc
import Derived.Test.YtdmindmelaemjaaWDecPure
import Derived.Test.YtdmindmelaemjaaMemB
namespace Go.Proofs.Ytdmindmelaemjaa
open Go.RowKit
theorem add_nil (a : Addr) : a.add 0 = a := by simp [Addr.add]
theorem dec_cons (h : UInt8) (t : List UInt8) : decInt (h :: t) = (if 8 < hk h then (0, 0, 6)
    else if t.length < hk h then (0, 0, 5)
    else if ((t.take (hk h)).map (· ^^^ fl h)).head? = some 0 then (0, 0, 6)
    else if 9223372036854775808 ≤ val ((t.take (hk h)).map (· ^^^ fl h)) then (0, 0, 6)
    else (if fl h = 255 then -1 - (val ((t.take (hk h)).map (· ^^^ fl h)) : Int) else (val ((t.take (hk h)).map (· ^^^ fl h)) : Int), (hk h : Int) + 1, 0)) := by
  have e : (fl h = 255) = (h.toNat < 128) := by
    unfold fl
    by_cases hh : h.toNat < 128 <;> simp [hh]
  simp only [decInt, e]
theorem xor_u8 (d f : UInt8) : bits .xor .u8 (d.toNat : Int) (f.toNat : Int) = ((d ^^^ f).toNat : Int) := by
  rw [u8_of_xor d.toNat f (by omega) (by have := d.toNat_lt; omega)]
  simp
theorem u8_ne0 (g : UInt8) (h : g ≠ 0) : ((g.toNat : Int) == 0) = false := by
  rw [beq_eq_false_iff_ne]
  intro e
  exact h (UInt8.toNat_inj.1 (by simpa using e))
/-- Whether the first digit is 0. -/
def hdz (k : Nat) (t : List UInt8) (f : UInt8) : Bool := decide (((t.take k).map (· ^^^ f)).head? = some 0)
theorem hdz_zero (t : List UInt8) (f : UInt8) : hdz 0 t f = false := by simp [hdz]
theorem hdz_cons (k : Nat) (d : UInt8) (t : List UInt8) (f : UInt8) (h : 0 < k) : hdz k (d :: t) f = (((d.toNat ^^^ f.toNat : Nat) : Int) == 0) := by
  obtain ⟨k, rfl⟩ : ∃ q, k = q + 1 := ⟨k - 1, by omega⟩
  rw [Bool.eq_iff_iff, hdz, decide_eq_true_eq, beq_iff_eq, ← UInt8.toNat_xor, List.take_succ_cons, List.map_cons, List.head?_cons, Option.some.injEq, ← UInt8.toNat_inj]
  show ((d ^^^ f).toNat = 0) ↔ _
  omega
theorem hdz_eq (k : Nat) (t : List UInt8) (f : UInt8) : hdz k t f = true ↔ ((t.take k).map (· ^^^ f)).head? = some 0 := by simp only [hdz, decide_eq_true_eq]
theorem or_step (V : Nat) (g : UInt8) (h : V < 72057594037927936) : bits .or .u64 ((V : Int) * 256) (g.toNat : Int) = ((256 * V + g.toNat : Nat) : Int) := by
  have hg := g.toNat_lt
  have e : (V : Int) * 256 = ((V * 256 : Nat) : Int) := by omega
  rw [e, u64_or_nat _ _ (by omega) (by omega), Nat.mul_comm 256 V, show V * 256 = V * 2 ^ 8 from rfl, ← Nat.shiftLeft_eq, Nat.shiftLeft_add_eq_or_of_lt hg]
theorem xor_max (V : Nat) (h : V < 18446744073709551616) : bits .xor .u64 IntKind.u64.max (V : Int) = ((18446744073709551615 - V : Nat) : Int) := by
  have hmax : IntKind.u64.max = ((18446744073709551615 : Nat) : Int) := by kernel_rfl
  rw [hmax, u64_xor_nat _ _ (by decide) h]
  congr 1
  apply Nat.eq_of_testBit_eq
  intro i
  have e1 := Nat.testBit_two_pow_sub_succ (show V < 2 ^ 64 by omega) i
  have e2 := Nat.testBit_two_pow_sub_succ (show 0 < 2 ^ 64 by omega) i
  rw [show 18446744073709551615 - V = 2 ^ 64 - (V + 1) from by omega, e1, show 18446744073709551615 = 2 ^ 64 - (0 + 1) from rfl, Nat.testBit_xor, e2]
  by_cases hi : i < 64
  · simp [hi]
  · simp [hi, Nat.testBit_lt_two_pow (show V < 2 ^ i from Nat.lt_of_lt_of_le (show V < 2 ^ 64 by omega) (Nat.pow_le_pow_right (by decide) (by omega)))]
theorem not_back (V : Nat) (h : V < 9223372036854775808) : wrap64 (bits .xor .u64 IntKind.u64.max (V : Int)) = -1 - (V : Int) := by
  rw [xor_max V (by omega)]
  unfold wrap64
  omega
theorem add_lit (a : Addr) (n : Nat) : a.add (n + 1) = ⟨a.block, a.off + (n + 1), none⟩ := by simp [Addr.add]
set_option maxRecDepth 100000 in
set_option maxHeartbeats 400000 in
theorem getint_any (b : List UInt8) (A : Option Addr) (c : Nat) (w : World) (hS : Seg w A (b.map fu8)) (hcap : b.length ≤ c) (hl : b.length ≤ 140737488351232) :
    Calls Try.prog 24 #[.slice A b.length c] w fun e w' => ∃ n u er, e = .returned (.tuple #[.int .i64 n, .int .i64 u, .int .i64 er]) ∧ decInt b = (n, u, er) ∧ w = w' := by
  rcases b with _ | ⟨h, t⟩
  · clear hS
    go_enter Try.func24, Try.ntmps24
    go_wp2
    go_ret3
    exact ⟨_, _, _, rfl, rfl, rfl⟩
  · obtain ⟨ad, rfl, hc0⟩ := hS.at_ (j := 0) (u := fu8 h) rfl
    unfold fu8 at hc0
    rw [add_nil] at hc0
    have hx0 := u8_of_xor h.toNat (fl h) (by omega) (by have := h.toNat_lt; omega)
    simp only [List.length_cons] at hl hcap ⊢
    go_enter Try.func24, Try.ntmps24
    go_upto_if 16 with (fail)
    go_cut [5] (fun s wx => s = .int .u8 ((fl h).toNat : Nat) ∧ w = wx)
    case first =>
      by_cases hh : h.toNat < 128
      · have hd : decide ((h.toNat : Int) < 128) = true := by simp; omega
        go_wp2
        go_meet
        case rel => exact ⟨by rw [fl, if_pos hh]; rfl, rfl⟩
      · have hd : decide ((h.toNat : Int) < 128) = false := by simp; omega
        go_wp2
        go_meet
        case rel => exact ⟨by rw [fl, if_neg hh]; rfl, rfl⟩
    case rest =>
      obtain ⟨rfl, rfl⟩ := hcut
      have hx1 : bits .xor .u8 (h.toNat : Int) ((fl h).toNat : Int) = 128 + (hk h : Int) := by rw [hx0, ← fl_xor]; simp
      clear hx0
      have HP : h.toNat < 128 ↔ fl h = 255 := by unfold fl; by_cases hh : h.toNat < 128 <;> simp [hh]
      have HP := Lib.hid HP
      have hk127 : hk h ≤ 127 := by have := fl_xor h; have := (h ^^^ fl h).toNat_lt; omega
      have HDec := Lib.hid (dec_cons h t)
      have hff : fl h = 0 ∨ fl h = 255 := by unfold fl; by_cases hh : h.toNat < 128 <;> simp [hh]
      generalize hk h = k at *
      generalize fl h = f at *
      have hsub : (128 : Int) + (k : Int) - 128 = (k : Int) := by omega
      by_cases hA : 8 < k
      · have hA2 : decide ((8 : Int) < (k : Int)) = true := by simp; omega
        have HA := Lib.hid hA
        clear hA
        go_wp2
        go_ret3
        exact ⟨_, _, _, rfl, by rw [HDec.out, if_pos HA.out], rfl⟩
      have hA2 : decide ((8 : Int) < (k : Int)) = false := by simp; omega
      by_cases hB : t.length < k
      · have hB2 : decide ((t.length : Int) + 1 ≤ (k : Int)) = true := by simp; omega
        have HA := Lib.hid hA
        have HB := Lib.hid hB
        clear hA hB
        go_wp2
        go_ret3
        exact ⟨_, _, _, rfl, by rw [HDec.out, if_neg HA.out, if_pos HB.out], rfl⟩
      have hB2 : decide ((t.length : Int) + 1 ≤ (k : Int)) = false := by simp; omega
      have HA := Lib.hid hA
      have HB := Lib.hid hB
      have hA' : k ≤ 8 := by omega
      have hB' : k ≤ t.length := by omega
      clear hA hB
      go_upto_region 11 with (fail)
      go_cut [32] (fun s wx => s = .bool (hdz k t f) ∧ w = wx)
      case first =>
        rcases Nat.eq_zero_or_pos k with h0 | h0
        · have h02 : decide ((0 : Int) < (k : Int)) = false := by simp; omega
          have h03 : decide (0 < k) = false := by simp; omega
          have hz : hdz k t f = false := by rw [h0, hdz_zero]
          clear h0
          go_wp2
          go_meet
          case rel => exact ⟨by rw [hz], rfl⟩
        · have h02 : decide ((0 : Int) < (k : Int)) = true := by simp; omega
          have h03 : decide (0 < k) = true := by simp; omega
          rcases t with _ | ⟨d, t'⟩
          · exact absurd hB' (by simp; omega)
          · have hc1 := hS.cell (j := 1) (u := fu8 d) rfl
            unfold fu8 at hc1
            rw [add_lit] at hc1
            have hx2 := xor_u8 d f
            have hz := hdz_cons k d t' f h0
            have HZ := Lib.hid hz
            clear hz
            simp only [List.length_cons] at hl hcap hB' hB2 ⊢
            go_wp2
            go_meet
            case rel => exact ⟨by rw [HZ.out], rfl⟩
      case rest =>
        obtain ⟨rfl, rfl⟩ := hcut
        have HZ := Lib.hid (hdz_eq k t f)
        generalize hdz k t f = Z at *
        rcases Z with _ | _
        · have HS := Lib.hid hS
          clear hS
          go_wp2_with (refine op_cut 1 (k + 1) HS.out 28 5 _ _ (.tmp 43) _ _ rfl rfl Try.underlying28 siz_u8 rfl rfl ?_ (.inl rfl) (.inl rfl) ?_ ?_ ?_; omega; omega; omega; intro A' hS2)
          have hS3 : Seg w A' ((t.take k).map fu8) := hS2
          have HS3 := Lib.hid hS3
          clear hS2 hS3
          have hlen : ((t.take k).map (· ^^^ f)).length = k := by rw [List.length_map, List.length_take]; omega
          have HDS := Lib.hid hlen
          have HMAP : ∀ j d, (t.take k)[j]? = some d → ((t.take k).map (· ^^^ f))[j]? = some (d ^^^ f) := fun j d hd => by rw [List.getElem?_map, hd]; rfl
          have HMAP := Lib.hid HMAP
          have htk : (t.take k).length = k := by rw [List.length_take]; omega
          have HTK := Lib.hid htk
          clear hlen htk
          generalize (t.take k).map (· ^^^ f) = ds at *
          generalize t.take k = ts at *
          go_loop [7, 48] (fun m i => ∃ j : Nat, j ≤ k ∧ i = .int .i64 j ∧ m = .int .u64 (val (ds.take j) : Nat)) (fun _ i => k - (intOf i).toNat)
          case atStart => exact ⟨0, Nat.zero_le _, rfl, rfl⟩
          case round =>
            obtain ⟨j, hj, rfl, rfl⟩ := hrel
            by_cases hlt : j < k
            · obtain ⟨d, hd⟩ := get_of ts j (by rw [HTK.out]; exact hlt)
              obtain ⟨ad', rfl, hcell⟩ := HS3.out.at_ (map_at fu8 hd)
              unfold fu8 at hcell
              have hx2 := xor_u8 d f
              have hst := val_step ds j _ (HMAP.out j d hd)
              have hb8 := val_take_lt ds j (by omega)
              have hgl := (d ^^^ f).toNat_lt
              generalize d ^^^ f = g at *
              generalize hV : val (ds.take j) = V at *
              have HV := Lib.hid hV
              have HST := Lib.hid hst
              have hor := or_step V g hb8
              clear hst hV hd
              go_wp2
              exact ⟨⟨j + 1, hlt, by go_num, by rw [HST.out]; go_num⟩, by simp only [intOf]; omega⟩
            · have hjk : j = k := by omega
              subst hjk
              have hfull : ds.take j = ds := List.take_of_length_le (by rw [HDS.out]; exact Nat.le_refl _)
              rw [hfull]
              generalize val ds = V at *
              have HFF := Lib.hid hff
              clear hff
              go_wp2
              · have h1 : 0 < (V : Int) / 9223372036854775808 := by assumption
                go_ret3
                exact ⟨_, _, _, rfl, by rw [HDec.out, if_neg HA.out, if_neg HB.out, if_neg (fun hh => Bool.false_ne_true (HZ.out.2 hh)), if_pos (by omega)], rfl⟩
              · have h1 : (V : Int) / 9223372036854775808 ≤ 0 := by assumption
                have h2 : 0 < f.toNat := by assumption
                go_ret3
                refine ⟨_, _, _, rfl, ?_, rfl⟩
                rw [HDec.out, if_neg HA.out, if_neg HB.out, if_neg (fun hh => Bool.false_ne_true (HZ.out.2 hh)), if_neg (by omega)]
                have hf : f = 255 := by
                  rcases HFF.out with e | e
                  · rw [e] at h2; exact absurd h2 (by decide)
                  · exact e
                rw [if_pos hf, not_back V (by omega)]
              · have h1 : (V : Int) / 9223372036854775808 ≤ 0 := by assumption
                have h2 : ¬ 0 < f.toNat := by assumption
                go_ret3
                refine ⟨_, _, _, rfl, ?_, rfl⟩
                rw [HDec.out, if_neg HA.out, if_neg HB.out, if_neg (fun hh => Bool.false_ne_true (HZ.out.2 hh)), if_neg (by omega)]
                have hf : f = 0 := by
                  rcases HFF.out with e | e
                  · exact e
                  · rw [e] at h2; exact absurd (by decide) h2
                rw [if_neg (by rw [hf]; decide)]
        · go_wp2
          go_ret3
          exact ⟨_, _, _, rfl, by rw [HDec.out, if_neg HA.out, if_neg HB.out, if_pos (HZ.out.1 trivial)], rfl⟩
end Go.Proofs.Ytdmindmelaemjaa
