/- The laws of the wire encodings, in plain Lean: round trips, canonical forms, truncated encodings, the order of integers. -/
import Derived.Test.YtdmindmelaemjaaWDecPure2
namespace Go.Proofs.Ytdmindmelaemjaa
set_option autoImplicit false

/-! Digits -/
theorem foldl_val (l : List UInt8) : ∀ a : Nat, l.foldl (fun a d => 256 * a + d.toNat) a = a * 256 ^ l.length + val l := by
  induction l with
  | nil => intro a; simp [val]
  | cons d l ih =>
    intro a
    have h1 := ih (256 * a + d.toNat)
    have h2 := ih (256 * 0 + d.toNat)
    simp only [List.foldl_cons, List.length_cons, val] at *
    rw [h1, h2, Nat.pow_succ, Nat.mul_zero, Nat.zero_add, Nat.add_mul, Nat.mul_comm 256 a, Nat.mul_assoc, Nat.mul_comm 256 (256 ^ l.length)]
    omega
theorem val_cons (d : UInt8) (l : List UInt8) : val (d :: l) = d.toNat * 256 ^ l.length + val l := by
  have := foldl_val l (256 * 0 + d.toNat)
  rw [Nat.mul_zero, Nat.zero_add] at this
  simpa [val] using this
theorem pow_pos' (k : Nat) : 0 < 256 ^ k := Nat.pow_pos (by decide)
theorem val_be (k m : Nat) : val (be k m) = m % 256 ^ k := by
  induction k with
  | zero => simp [be, val, Nat.mod_one]
  | succ k ih =>
    have h := @Nat.mod_pow_succ m 256 k
    rw [be, val_cons, be_len, ih, UInt8.toNat_ofNat', h, Nat.mul_comm, Nat.add_comm]
theorem be_mod (k m a : Nat) : be k (a * 256 ^ k + m) = be k m := by
  induction k generalizing a with
  | zero => rfl
  | succ k ih =>
    have h1 : a * 256 ^ (k + 1) + m = (a * 256) * 256 ^ k + m := by rw [Nat.pow_succ, Nat.mul_comm (256 ^ k) 256, ← Nat.mul_assoc]
    rw [be, be, h1, ih, Nat.add_comm, Nat.add_mul_div_right _ _ (pow_pos' k)]
    congr 1
    apply UInt8.toNat_inj.1
    rw [UInt8.toNat_ofNat', UInt8.toNat_ofNat']
    omega
theorem be_val (l : List UInt8) : be l.length (val l) = l := by
  induction l with
  | nil => rfl
  | cons d l ih =>
    have hl := val_lt l
    rw [List.length_cons, be, val_cons, be_mod, ih, Nat.add_comm, Nat.add_mul_div_right _ _ (pow_pos' _), Nat.div_eq_of_lt hl, Nat.zero_add]
    congr 1
    apply UInt8.toNat_inj.1
    rw [UInt8.toNat_ofNat']
    have := d.toNat_lt
    omega
theorem xor_xor (x f : UInt8) : x ^^^ f ^^^ f = x := by rw [UInt8.xor_assoc, UInt8.xor_self, UInt8.xor_zero]
theorem map_xor_xor (l : List UInt8) (f : UInt8) : (l.map (· ^^^ f)).map (· ^^^ f) = l := by
  rw [List.map_map]
  have : ((· ^^^ f) ∘ (· ^^^ f) : UInt8 → UInt8) = id := by
    funext x
    exact xor_xor x f
  rw [this, List.map_id]
/-- The number of digits: the least that serves. -/
theorem nb_bound (M : Nat) (h : M < 18446744073709551616) : M < 256 ^ nb M := nbF_bound 8 M h
theorem nb_of (M k : Nat) (hM : M < 18446744073709551616) (h1 : M < 256 ^ k) (h2 : k = 0 ∨ 256 ^ (k - 1) ≤ M) : nb M = k := by
  have hb := nb_bound M hM
  rcases Nat.lt_trichotomy (nb M) k with h | h | h
  · rcases h2 with h2 | h2
    · omega
    · have : 256 ^ nb M ≤ 256 ^ (k - 1) := Nat.pow_le_pow_right (by decide) (by omega)
      omega
  · exact h
  · have h3 := (nb_lt M k hM).1 h
    rw [Nat.div_eq_of_lt h1] at h3
    omega
theorem be_head (M : Nat) (hM : M < 18446744073709551616) : (be (nb M) M).head? ≠ some 0 := by
  rcases hk : nb M with _ | k
  · simp [be]
  · have h1 := nb_bound M hM
    have h2 := (nb_lt M k hM).1 (by omega)
    rw [hk, Nat.pow_succ] at h1
    have h3 : M / 256 ^ k < 256 := by
      rw [Nat.div_lt_iff_lt_mul (pow_pos' k), Nat.mul_comm]
      exact h1
    rw [be, List.head?_cons]
    intro e
    have e1 := congrArg (fun o => (o.getD 0).toNat) e
    simp only [Option.getD_some, UInt8.toNat_ofNat'] at e1
    have : (0 : UInt8).toNat = 0 := rfl
    omega

/-! One integer -/
theorem ihd_facts : ∀ k, k < 9 → (fl (ihd k 0) = 0 ∧ hk (ihd k 0) = k ∧ 128 ≤ (ihd k 0).toNat) ∧ (fl (ihd k 255) = 255 ∧ hk (ihd k 255) = k ∧ (ihd k 255).toNat < 128) := by decide
theorem flp_cases (n : Int) : (n < 0 ∧ flp n = 255) ∨ (0 ≤ n ∧ flp n = 0) := by
  unfold flp
  by_cases h : n < 0
  · exact .inl ⟨h, if_pos h⟩
  · exact .inr ⟨by omega, if_neg h⟩
theorem mag_lt (n : Int) (h0 : -9223372036854775808 ≤ n) (h1 : n ≤ 9223372036854775807) : mag n < 9223372036854775808 := by unfold mag; split <;> omega
theorem encInt_cons (n : Int) : encInt n = ihd (nb (mag n)) (flp n) :: (be (nb (mag n)) (mag n)).map (· ^^^ flp n) := rfl
theorem hd_facts (n : Int) : fl (ihd (nb (mag n)) (flp n)) = flp n ∧ hk (ihd (nb (mag n)) (flp n)) = nb (mag n) ∧ ((ihd (nb (mag n)) (flp n)).toNat < 128 ↔ n < 0) := by
  have hf := ihd_facts (nb (mag n)) (by have := nb_le (mag n); omega)
  rcases flp_cases n with ⟨h, e⟩ | ⟨h, e⟩ <;> rw [e]
  · exact ⟨hf.2.1, hf.2.2.1, by have := hf.2.2.2; constructor <;> intro <;> omega⟩
  · exact ⟨hf.1.1, hf.1.2.1, by have := hf.1.2.2; constructor <;> intro <;> omega⟩
/-- Decoding an encoding, whatever follows it. -/
theorem dec_enc (n : Int) (h0 : -9223372036854775808 ≤ n) (h1 : n ≤ 9223372036854775807) (t : List UInt8) : decInt (encInt n ++ t) = (n, ((encInt n).length : Int), 0) := by
  have hM := mag_lt n h0 h1
  obtain ⟨e1, e2, e3⟩ := hd_facts n
  have hlen := encInt_len n
  have hk8 := nb_le (mag n)
  rw [encInt_cons] at *
  generalize hK : nb (mag n) = k at *
  have hds : (((be k (mag n)).map (· ^^^ flp n) ++ t).take k).map (· ^^^ flp n) = be k (mag n) := by
    rw [List.take_left' (by rw [List.length_map, be_len]), map_xor_xor]
  have hval : val (be k (mag n)) = mag n := by rw [val_be, Nat.mod_eq_of_lt (by rw [← hK]; exact nb_bound _ (by omega))]
  have hhead : (be k (mag n)).head? ≠ some 0 := by rw [← hK]; exact be_head _ (by omega)
  rw [List.cons_append, decInt, e2, e1, hds, hval, if_neg (by omega), if_neg (by rw [List.length_append, List.length_map, be_len]; omega), if_neg hhead, if_neg (by omega)]
  simp only [Prod.mk.injEq, and_true]
  refine ⟨?_, by omega⟩
  by_cases h : n < 0
  · rw [if_pos (e3.2 h)]
    have := mag_neg n h
    omega
  · rw [if_neg (fun hh => h (e3.1 hh))]
    have := mag_pos n (by omega)
    omega
/-- Every proper prefix of an encoding is too short. -/
theorem dec_prefix (n : Int) (i : Nat) (hi : i < (encInt n).length) : decInt ((encInt n).take i) = (0, 0, 5) := by
  obtain ⟨e1, e2, e3⟩ := hd_facts n
  have hlen := encInt_len n
  have hk8 := nb_le (mag n)
  rcases i with _ | i
  · rfl
  · rw [encInt_cons] at hi ⊢
    rw [List.take_succ_cons, decInt, e2, if_neg (by omega), if_pos (by rw [List.length_take, List.length_map, be_len]; rw [List.length_cons, List.length_map, be_len] at hi; omega)]
/-- What is decoded is what was read. -/
theorem dec_canon (b : List UInt8) (n u : Int) (h : decInt b = (n, u, 0)) : b.take u.toNat = encInt n := by
  rcases b with _ | ⟨x, t⟩
  · simp [decInt] at h
  · simp only [decInt] at h
    by_cases h1 : 8 < hk x
    · rw [if_pos h1] at h; simp at h
    rw [if_neg h1] at h
    by_cases h2 : t.length < hk x
    · rw [if_pos h2] at h; simp at h
    rw [if_neg h2] at h
    by_cases h3 : ((t.take (hk x)).map (· ^^^ fl x)).head? = some 0
    · rw [if_pos h3] at h; simp at h
    rw [if_neg h3] at h
    by_cases h4 : 9223372036854775808 ≤ val ((t.take (hk x)).map (· ^^^ fl x))
    · rw [if_pos h4] at h; simp at h
    rw [if_neg h4] at h
    simp only [Prod.mk.injEq, and_true] at h
    obtain ⟨hn, hu⟩ := h
    have hxk := fl_xor x
    generalize hds : (t.take (hk x)).map (· ^^^ fl x) = ds at *
    have hlen : ds.length = hk x := by rw [← hds, List.length_map, List.length_take]; omega
    have hV : val ds < 9223372036854775808 := by omega
    have hflp : flp n = fl x := by
      unfold flp fl
      by_cases hx : x.toNat < 128
      · rw [if_pos hx] at hn ⊢
        rw [if_pos (by omega)]
      · rw [if_neg hx] at hn ⊢
        rw [if_neg (by omega)]
    have hmag : mag n = val ds := by
      unfold mag
      by_cases hx : x.toNat < 128
      · rw [if_pos hx] at hn
        rw [if_pos (by omega)]
        omega
      · rw [if_neg hx] at hn
        rw [if_neg (by omega)]
        omega
    have hnb : nb (mag n) = hk x := by
      rw [hmag]
      refine nb_of _ _ (by omega) (by have := val_lt ds; rwa [hlen] at this) ?_
      rcases ds with _ | ⟨d, l⟩
      · exact .inl (by simpa using hlen.symm)
      · right
        rw [← hlen, val_cons, List.length_cons, Nat.add_sub_cancel]
        have hd : d ≠ 0 := fun e => h3 (by rw [e]; rfl)
        have hd1 : 1 ≤ d.toNat := by
          rcases Nat.eq_zero_or_pos d.toNat with e | e
          · exact absurd (UInt8.toNat_inj.1 (by rw [e]; rfl)) hd
          · exact e
        have := Nat.mul_le_mul_right (256 ^ l.length) hd1
        omega
    have hhead : ihd (hk x) (fl x) = x := by
      have h5 : x ^^^ fl x = UInt8.ofNat (128 + hk x) := by
        apply UInt8.toNat_inj.1
        rw [UInt8.toNat_ofNat']
        have := (x ^^^ fl x).toNat_lt
        omega
      rw [ihd, ← h5, xor_xor]
    rw [encInt_cons, hnb, hflp, hmag, hhead, ← hu]
    have h6 : ((hk x : Int) + 1).toNat = hk x + 1 := by omega
    have e7 : be (hk x) (val ds) = ds := by rw [← hlen, be_val]
    rw [h6, List.take_succ_cons, e7, ← hds, map_xor_xor]
theorem encInt_pos (n : Int) : 0 < (encInt n).length := by rw [encInt_len]; omega

/-! A count -/
theorem cnt_enc (N s : Nat) (h : N ≤ 9223372036854775807) (t : List UInt8) (hs : 0 < s) (ht : N * s ≤ t.length) : decCnt (encInt N ++ t) s = ((N : Int), ((encInt N).length : Int), 0) := by
  have hd := dec_enc N (by omega) (by omega) t
  rw [decCnt_of _ s _ _ _ hd, if_neg (by simp), if_neg (by omega), if_neg]
  have h1 : (((encInt N ++ t).length : Nat) : Int) - ((encInt N).length : Int) = (t.length : Int) := by rw [List.length_append]; omega
  rw [h1]
  have h2 : (N : Int) ≤ (t.length : Int) / (s : Int) := (Int.le_ediv_iff_mul_le (by omega)).2 (by rw [← Int.natCast_mul]; omega)
  omega
theorem cnt_short (N s : Nat) (h : N ≤ 9223372036854775807) (t : List UInt8) (hs : 0 < s) (ht : t.length < N * s) : decCnt (encInt N ++ t) s = (0, 0, 5) := by
  have hd := dec_enc N (by omega) (by omega) t
  rw [decCnt_of _ s _ _ _ hd, if_neg (by simp), if_neg (by omega), if_pos]
  have h1 : (((encInt N ++ t).length : Nat) : Int) - ((encInt N).length : Int) = (t.length : Int) := by rw [List.length_append]; omega
  rw [h1]
  exact (Int.ediv_lt_iff_lt_mul (by omega)).2 (by rw [← Int.natCast_mul]; omega)
theorem cnt_prefix (n : Int) (s i : Nat) (hi : i < (encInt n).length) : decCnt ((encInt n).take i) s = (0, 0, 5) := by
  rw [decCnt_of _ s _ _ _ (dec_prefix n i hi), if_pos (by decide)]

/-! Byte strings -/
theorem ba_ext (s : ByteArray) : (⟨s.data.toList.toArray⟩ : ByteArray) = s := rfl
theorem size_len (s : ByteArray) : s.data.toList.length = s.size := by rw [Array.length_toList]; rfl
theorem bytes_enc (s : ByteArray) (h : s.size ≤ 9223372036854775807) (t : List UInt8) : decBytes (encBytes s ++ t) = (s, ((encBytes s).length : Int), 0) := by
  have hc := cnt_enc s.size 1 h (s.data.toList ++ t) (by decide) (by rw [List.length_append, size_len]; omega)
  rw [← List.append_assoc] at hc
  have he : encInt (s.size : Int) ++ s.data.toList = encBytes s := rfl
  rw [he] at hc
  rw [decBytes, hc, if_neg (by simp)]
  have h1 : ((encBytes s ++ t).drop ((encInt (s.size : Int)).length : Int).toNat).take ((s.size : Int)).toNat = s.data.toList := by
    rw [Int.toNat_natCast, Int.toNat_natCast, encBytes, List.append_assoc, List.drop_left' rfl, List.take_left' (size_len s)]
  rw [h1, ba_ext]
  simp only [Prod.mk.injEq, true_and, and_true, encBytes, List.length_append, size_len]
  omega
theorem bytes_prefix (s : ByteArray) (h : s.size ≤ 9223372036854775807) (i : Nat) (hi : i < (encBytes s).length) : decBytes ((encBytes s).take i) = (⟨#[]⟩, 0, 5) := by
  have hc : decCnt ((encBytes s).take i) 1 = (0, 0, 5) := by
    rw [encBytes, List.take_append]
    by_cases h1 : i < (encInt (s.size : Int)).length
    · rw [show i - (encInt (s.size : Int)).length = 0 by omega, List.take_zero, List.append_nil]
      exact cnt_prefix _ 1 i h1
    · rw [List.take_of_length_le (by omega)]
      refine cnt_short s.size 1 h _ (by decide) ?_
      rw [encBytes, List.length_append, size_len] at hi
      rw [List.length_take, size_len]
      omega
  rw [decBytes, hc, if_pos (by decide)]
theorem bytes_canon (b : List UInt8) (s : ByteArray) (u : Int) (h : decBytes b = (s, u, 0)) : b.take u.toNat = encBytes s ∧ 0 ≤ u ∧ u ≤ b.length := by
  obtain ⟨⟨n, p, e⟩, hd⟩ : ∃ r, decCnt b 1 = r := ⟨_, rfl⟩
  simp only [decBytes, hd] at h
  by_cases he : e = 0
  · subst he
    obtain ⟨N, U, rfl, rfl, h1, h2, h3, h4⟩ := decCnt_ok b 1 n p (by decide) hd
    simp only [ne_eq, not_true_eq_false, if_false, Prod.mk.injEq, and_true, Int.toNat_natCast] at h
    obtain ⟨rfl, rfl⟩ := h
    have hc := dec_canon b _ _ h4
    have hsz : ((b.drop U).take N).length = N := by rw [List.length_take, List.length_drop]; omega
    have hn : ((⟨((b.drop U).take N).toArray⟩ : ByteArray).size : Nat) = N := by
      show ((b.drop U).take N).toArray.size = N
      rw [List.size_toArray, hsz]
    refine ⟨?_, by omega, by omega⟩
    rw [encBytes, hn, ← hc, Int.toNat_natCast, show ((U : Int) + (N : Int)).toNat = U + N by omega, List.take_add]
  · simp [he] at h

/-! Lists -/
section
variable {α : Type} {dec : List UInt8 → α × Int × Int} {enc : α → List UInt8}
theorem decN_enc (t : List UInt8) : ∀ (l : List α) (pre : List UInt8) (acc : List α), (∀ x ∈ l, ∀ t, dec (enc x ++ t) = (x, ((enc x).length : Int), 0)) →
    decN dec (pre ++ l.flatMap enc ++ t) l.length pre.length acc = (acc ++ l, ((pre ++ l.flatMap enc).length : Int), 0)
  | [], pre, acc, _ => by simp [decN]
  | x :: l, pre, acc, h => by
    have hx := h x (List.mem_cons_self ..) (l.flatMap enc ++ t)
    have hdrop : (pre ++ (x :: l).flatMap enc ++ t).drop pre.length = enc x ++ (l.flatMap enc ++ t) := by
      rw [List.append_assoc, List.drop_left' rfl, List.flatMap_cons, List.append_assoc]
    have ih := decN_enc t l (pre ++ enc x) (acc ++ [x]) (fun y hy => h y (List.mem_cons_of_mem _ hy))
    rw [List.length_cons, decN, hdrop, hx, if_neg (by simp), Int.toNat_natCast]
    rw [show pre ++ (x :: l).flatMap enc = pre ++ enc x ++ l.flatMap enc by rw [List.flatMap_cons, List.append_assoc], show pre.length + (enc x).length = (pre ++ enc x).length by rw [List.length_append], ih]
    simp
theorem flat_ge (hp : ∀ x, 0 < (enc x).length) (l : List α) : l.length ≤ (l.flatMap enc).length := by
  induction l with
  | nil => simp
  | cons x l ih => have := hp x; simp only [List.flatMap_cons, List.length_append, List.length_cons]; omega
theorem list_enc (hp : ∀ x, 0 < (enc x).length) (l : List α) (hl : l.length ≤ 9223372036854775807) (h : ∀ x ∈ l, ∀ t, dec (enc x ++ t) = (x, ((enc x).length : Int), 0)) (t : List UInt8) :
    decList dec (encInt l.length ++ l.flatMap enc ++ t) = (l, ((encInt l.length ++ l.flatMap enc).length : Int), 0) := by
  have hc := cnt_enc l.length 1 hl (l.flatMap enc ++ t) (by decide) (by have := flat_ge hp l; rw [List.length_append]; omega)
  rw [← List.append_assoc] at hc
  have hd := decN_enc t l (encInt l.length) [] h
  rw [decList, hc, if_neg (by simp), Int.toNat_natCast, Int.toNat_natCast, hd, List.nil_append]
/-- A list that is cut: the decoder says so. -/
theorem decN_prefix : ∀ (l : List α) (pre : List UInt8) (acc : List α) (i : Nat), (∀ x ∈ l, ∀ t, dec (enc x ++ t) = (x, ((enc x).length : Int), 0)) → (∀ x ∈ l, ∀ i, i < (enc x).length → (dec ((enc x).take i)).2.2 = 5) →
    i < (l.flatMap enc).length → decN dec (pre ++ (l.flatMap enc).take i) l.length pre.length acc = ([], 0, 5)
  | [], pre, acc, i, _, _, hi => by simp at hi
  | x :: l, pre, acc, i, h, hcut, hi => by
    rw [List.flatMap_cons, List.length_append] at hi
    rw [List.length_cons, decN, List.drop_left' rfl, List.flatMap_cons]
    by_cases h1 : i < (enc x).length
    · have h2 : (enc x ++ l.flatMap enc).take i = (enc x).take i := List.take_append_of_le_length (by omega)
      rw [h2, hcut x (List.mem_cons_self ..) i h1, if_pos (by decide)]
    · have h2 : (enc x ++ l.flatMap enc).take i = enc x ++ (l.flatMap enc).take (i - (enc x).length) := by rw [List.take_append, List.take_of_length_le (by omega)]
      have ih := decN_prefix l (pre ++ enc x) (acc ++ [x]) (i - (enc x).length) (fun y hy => h y (List.mem_cons_of_mem _ hy)) (fun y hy => hcut y (List.mem_cons_of_mem _ hy)) (by omega)
      rw [h2, h x (List.mem_cons_self ..), if_neg (by simp), Int.toNat_natCast, ← List.append_assoc, ← List.length_append]
      exact ih
theorem list_prefix (hp : ∀ x, 0 < (enc x).length) (l : List α) (hl : l.length ≤ 9223372036854775807) (h : ∀ x ∈ l, ∀ t, dec (enc x ++ t) = (x, ((enc x).length : Int), 0)) (hcut : ∀ x ∈ l, ∀ i, i < (enc x).length → (dec ((enc x).take i)).2.2 = 5)
    (i : Nat) (hi : i < (encInt l.length ++ l.flatMap enc).length) : decList dec ((encInt l.length ++ l.flatMap enc).take i) = ([], 0, 5) := by
  rw [List.length_append] at hi
  by_cases h1 : i < (encInt (l.length : Int)).length
  · rw [List.take_append_of_le_length (by omega), decList, cnt_prefix _ 1 i h1, if_pos (by decide)]
  · rw [List.take_append, List.take_of_length_le (by omega)]
    generalize hj : i - (encInt (l.length : Int)).length = j
    by_cases h2 : j < l.length
    · rw [decList, cnt_short l.length 1 hl _ (by decide) (by rw [List.length_take]; omega), if_pos (by decide)]
    · have hge := flat_ge hp l
      rw [decList, cnt_enc l.length 1 hl _ (by decide) (by rw [List.length_take]; omega), if_neg (by simp), Int.toNat_natCast, Int.toNat_natCast]
      exact decN_prefix l _ [] j h hcut (by omega)
/-- What is decoded is what was read. -/
theorem decN_canon (b : List UInt8) (hcan : ∀ c x u, dec c = (x, u, 0) → c.take u.toNat = enc x ∧ 0 ≤ u ∧ u ≤ c.length) : ∀ (k p : Nat) (acc l : List α) (u : Int), p ≤ b.length → decN dec b k p acc = (l, u, 0) →
    ∃ l', l = acc ++ l' ∧ l'.length = k ∧ (p : Int) ≤ u ∧ u ≤ b.length ∧ (b.drop p).take (u.toNat - p) = l'.flatMap enc
  | 0, p, acc, l, u, hp, h => by
    simp only [decN, Prod.mk.injEq, and_true] at h
    obtain ⟨rfl, rfl⟩ := h
    exact ⟨[], by simp, rfl, by omega, by omega, by simp⟩
  | k + 1, p, acc, l, u, hp, h => by
    obtain ⟨⟨x, v, e⟩, hd⟩ : ∃ r, dec (b.drop p) = r := ⟨_, rfl⟩
    rw [decN, hd] at h
    by_cases he : e = 0
    · subst he
      rw [if_neg (by simp)] at h
      obtain ⟨c1, c2, c3⟩ := hcan _ x v hd
      rw [List.length_drop] at c3
      obtain ⟨V, rfl⟩ := Int.eq_ofNat_of_zero_le c2
      simp only [Int.toNat_natCast] at h c1
      obtain ⟨l', h1, h2, h3, h4, h5⟩ := decN_canon b hcan k (p + V) (acc ++ [x]) l u (by omega) h
      refine ⟨x :: l', by rw [h1, List.append_assoc]; rfl, by rw [List.length_cons, h2], by omega, h4, ?_⟩
      have h6 : u.toNat - p = V + (u.toNat - (p + V)) := by omega
      rw [h6, List.take_add, c1, List.drop_drop, h5, List.flatMap_cons]
    · rw [if_pos he] at h
      simp only [Prod.mk.injEq] at h
      exact absurd h.2.2 he
theorem list_canon (hcan : ∀ c x u, dec c = (x, u, 0) → c.take u.toNat = enc x ∧ 0 ≤ u ∧ u ≤ c.length) (b : List UInt8) (l : List α) (u : Int) (h : decList dec b = (l, u, 0)) : b.take u.toNat = encInt l.length ++ l.flatMap enc ∧ 0 ≤ u ∧ u ≤ b.length := by
  obtain ⟨⟨n, p, e⟩, hd⟩ : ∃ r, decCnt b 1 = r := ⟨_, rfl⟩
  rw [decList, hd] at h
  by_cases he : e = 0
  · subst he
    obtain ⟨N, U, rfl, rfl, h1, h2, h3, h4⟩ := decCnt_ok b 1 n p (by decide) hd
    rw [if_neg (by simp)] at h
    simp only [Int.toNat_natCast] at h
    obtain ⟨l', e1, e2, e3, e4, e5⟩ := decN_canon b hcan N U [] l u (by omega) h
    rw [List.nil_append] at e1
    subst e1
    have hc := dec_canon b _ _ h4
    rw [Int.toNat_natCast] at hc
    refine ⟨?_, by omega, e4⟩
    have h6 : u.toNat = U + (u.toNat - U) := by omega
    rw [h6, List.take_add, hc, e5, e2]
  · rw [if_pos he] at h
    simp only [Prod.mk.injEq] at h
    exact absurd h.2.2 he
end
/-! Digests -/
theorem chunks_enc (t : List UInt8) : ∀ (l : List (List UInt8)) (pre : List UInt8) (k : Nat), (∀ e ∈ l, e.length = 16) → k ≤ l.length → chunks (pre ++ l.flatten ++ t) pre.length k = l.take k
  | l, pre, 0, _, _ => by simp [chunks]
  | l, pre, k + 1, h, hk => by
    have ih := chunks_enc t l pre k h (by omega)
    obtain ⟨e, he⟩ : ∃ e, l[k]? = some e := ⟨l[k], List.getElem?_eq_getElem (by omega)⟩
    have hsplit : l.flatten = (l.take k).flatten ++ (e ++ (l.drop (k + 1)).flatten) := by
      conv => lhs; rw [← List.take_append_drop k l]
      rw [List.flatten_append, List.drop_eq_getElem_cons (by omega), List.flatten_cons]
      have : l[k] = e := by rw [List.getElem?_eq_getElem (by omega)] at he; exact Option.some.inj he
      rw [this]
    have hlen : (l.take k).flatten.length = 16 * k := by
      have : ∀ m : List (List UInt8), (∀ e ∈ m, e.length = 16) → m.flatten.length = 16 * m.length := by
        intro m
        induction m with
        | nil => intro; rfl
        | cons a m ihm =>
          intro hm
          rw [List.flatten_cons, List.length_append, hm a (List.mem_cons_self ..), ihm (fun e he => hm e (List.mem_cons_of_mem _ he)), List.length_cons]
          omega
      rw [this _ (fun e he => h e (List.mem_of_mem_take he)), List.length_take]
      omega
    have hta := List.take_add_one (l := l) (i := k)
    rw [chunks, ih, hta, he, hsplit]
    congr 1
    rw [Option.toList]
    congr 1
    have : pre ++ ((l.take k).flatten ++ (e ++ (l.drop (k + 1)).flatten)) ++ t = (pre ++ (l.take k).flatten) ++ (e ++ ((l.drop (k + 1)).flatten ++ t)) := by simp
    rw [this, List.drop_left' (by rw [List.length_append, hlen]), List.take_left' (h e (List.mem_of_getElem? he))]
theorem flatten16 (m : List (List UInt8)) (hm : ∀ e ∈ m, e.length = 16) : m.flatten.length = m.length * 16 := by
  induction m with
  | nil => rfl
  | cons a m ihm =>
    rw [List.flatten_cons, List.length_append, hm a (List.mem_cons_self ..), ihm (fun e he => hm e (List.mem_cons_of_mem _ he)), List.length_cons]
    omega
theorem digs_enc (l : List (List UInt8)) (h16 : ∀ e ∈ l, e.length = 16) (hl : l.length ≤ 9223372036854775807) (t : List UInt8) : decDigs (encDigs l ++ t) = (l, ((encDigs l).length : Int), 0) := by
  have hf := flatten16 l h16
  have hc := cnt_enc l.length 16 hl (l.flatten ++ t) (by decide) (by rw [List.length_append]; omega)
  rw [← List.append_assoc] at hc
  have he : encInt (l.length : Int) ++ l.flatten = encDigs l := rfl
  rw [he] at hc
  have hch := chunks_enc t l (encInt (l.length : Int)) l.length h16 (Nat.le_refl _)
  rw [he, List.take_length] at hch
  rw [decDigs, hc, if_neg (by simp), Int.toNat_natCast, Int.toNat_natCast, hch]
  simp only [Prod.mk.injEq, true_and, and_true, encDigs, List.length_append, hf]
  omega
theorem digs_prefix (l : List (List UInt8)) (h16 : ∀ e ∈ l, e.length = 16) (hl : l.length ≤ 9223372036854775807) (i : Nat) (hi : i < (encDigs l).length) : decDigs ((encDigs l).take i) = ([], 0, 5) := by
  have hf := flatten16 l h16
  rw [encDigs, List.length_append] at hi
  by_cases h1 : i < (encInt (l.length : Int)).length
  · rw [encDigs, List.take_append_of_le_length (by omega), decDigs, cnt_prefix _ 16 i h1, if_pos (by decide)]
  · rw [encDigs, List.take_append, List.take_of_length_le (by omega), decDigs, cnt_short l.length 16 hl _ (by decide) (by rw [List.length_take]; omega), if_pos (by decide)]
theorem chunks_flat (b : List UInt8) (p : Nat) : ∀ k, p + 16 * k ≤ b.length → (chunks b p k).flatten = (b.drop p).take (16 * k) ∧ (∀ e ∈ chunks b p k, e.length = 16) ∧ (chunks b p k).length = k
  | 0, _ => by simp [chunks]
  | k + 1, h => by
    obtain ⟨h1, h2, h3⟩ := chunks_flat b p k (by omega)
    refine ⟨?_, ?_, by simp [chunks, h3]⟩
    · rw [chunks, List.flatten_append, h1, show 16 * (k + 1) = 16 * k + 16 by omega, List.take_add, List.drop_drop]
      simp
    · intro e he
      rcases List.mem_append.1 he with h4 | h4
      · exact h2 e h4
      · rw [List.mem_singleton.1 h4, List.length_take, List.length_drop]
        omega
theorem digs_canon (b : List UInt8) (l : List (List UInt8)) (u : Int) (h : decDigs b = (l, u, 0)) : b.take u.toNat = encDigs l ∧ 0 ≤ u ∧ u ≤ b.length ∧ (∀ e ∈ l, e.length = 16) ∧ l.length * 16 ≤ b.length := by
  obtain ⟨⟨n, p, e⟩, hd⟩ : ∃ r, decCnt b 16 = r := ⟨_, rfl⟩
  rw [decDigs, hd] at h
  by_cases he : e = 0
  · subst he
    obtain ⟨N, U, rfl, rfl, h1, h2, h3, h4⟩ := decCnt_ok b 16 n p (by decide) hd
    rw [if_neg (by simp)] at h
    simp only [Int.toNat_natCast, Prod.mk.injEq, and_true] at h
    obtain ⟨rfl, rfl⟩ := h
    obtain ⟨e1, e2, e3⟩ := chunks_flat b U N (by omega)
    have hc := dec_canon b _ _ h4
    rw [Int.toNat_natCast] at hc
    refine ⟨?_, by omega, by omega, e2, by rw [e3]; omega⟩
    rw [encDigs, e3, e1, ← hc, show ((U : Int) + 16 * (N : Int)).toNat = U + 16 * N by omega, List.take_add]
  · rw [if_pos he] at h
    simp only [Prod.mk.injEq] at h
    exact absurd h.2.2 he
/-! The lists of this package -/
theorem ints_enc (l : List Int) (hl : l.length ≤ 9223372036854775807) (hI : ∀ x ∈ l, -9223372036854775808 ≤ x ∧ x ≤ 9223372036854775807) (t : List UInt8) : decInts (encInts l ++ t) = (l, ((encInts l).length : Int), 0) :=
  list_enc encInt_pos l hl (fun x hx t => dec_enc x (hI x hx).1 (hI x hx).2 t) t
theorem encBytes_pos (s : ByteArray) : 0 < (encBytes s).length := by rw [encBytes, List.length_append]; have := encInt_pos s.size; omega
theorem strs_enc (l : List ByteArray) (hl : l.length ≤ 9223372036854775807) (hs : ∀ x ∈ l, x.size ≤ 9223372036854775807) (t : List UInt8) : decStrs (encStrs l ++ t) = (l, ((encStrs l).length : Int), 0) :=
  list_enc encBytes_pos l hl (fun x hx t => bytes_enc x (hs x hx) t) t
theorem ints_prefix (l : List Int) (hl : l.length ≤ 9223372036854775807) (hI : ∀ x ∈ l, -9223372036854775808 ≤ x ∧ x ≤ 9223372036854775807) (i : Nat) (hi : i < (encInts l).length) : decInts ((encInts l).take i) = ([], 0, 5) :=
  list_prefix encInt_pos l hl (fun x hx t => dec_enc x (hI x hx).1 (hI x hx).2 t) (fun x _ i hi => by rw [dec_prefix x i hi]) i hi
theorem strs_prefix (l : List ByteArray) (hl : l.length ≤ 9223372036854775807) (hs : ∀ x ∈ l, x.size ≤ 9223372036854775807) (i : Nat) (hi : i < (encStrs l).length) : decStrs ((encStrs l).take i) = ([], 0, 5) :=
  list_prefix encBytes_pos l hl (fun x hx t => bytes_enc x (hs x hx) t) (fun x hx i hi => by rw [bytes_prefix x (hs x hx) i hi]) i hi
theorem int_canon3 (c : List UInt8) (x u : Int) (h : decInt c = (x, u, 0)) : c.take u.toNat = encInt x ∧ 0 ≤ u ∧ u ≤ c.length := by
  obtain ⟨U, rfl, _, _, h3, _⟩ := decInt_ok c x u h
  exact ⟨dec_canon c x _ h, by omega, by omega⟩
theorem ints_canon (b : List UInt8) (l : List Int) (u : Int) (h : decInts b = (l, u, 0)) : b.take u.toNat = encInts l ∧ 0 ≤ u ∧ u ≤ b.length := list_canon int_canon3 b l u h
theorem strs_canon (b : List UInt8) (l : List ByteArray) (u : Int) (h : decStrs b = (l, u, 0)) : b.take u.toNat = encStrs l ∧ 0 ≤ u ∧ u ≤ b.length := list_canon bytes_canon b l u h
end Go.Proofs.Ytdmindmelaemjaa
