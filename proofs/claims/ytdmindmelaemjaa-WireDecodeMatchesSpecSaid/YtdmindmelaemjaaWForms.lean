/- The contracts once more, what comes back being a slice that is read. -/
import Derived.Test.YtdmindmelaemjaaWGetD
namespace Go.Proofs.Ytdmindmelaemjaa
open Go.RowKit

/-- A slice of xs comes back, nothing that was there has turned. -/
def RetS {α : Type} (f : α → Value) (xs : List α) (w : World) (e : Ending) (w' : World) : Prop := ∃ A c, e = .returned (.slice A xs.length c) ∧ xs.length ≤ c ∧ Seg w' A (xs.map f) ∧ Below w.heap.size w w'
/-- The same beside a position and an error. -/
def RetT {α : Type} (f : α → Value) (xs : List α) (u er : Int) (w : World) (e : Ending) (w' : World) : Prop := ∃ A c, e = .returned (.tuple #[.slice A xs.length c, .int .i64 u, .int .i64 er]) ∧ xs.length ≤ c ∧ Seg w' A (xs.map f) ∧ Below w.heap.size w w'
def RetV (v : Value) (w : World) (e : Ending) (w' : World) : Prop := e = .returned v ∧ Below w.heap.size w w'
theorem retS_of {α : Type} {f : α → Value} {t : TypeId} {xs : List α} {w : World} {e : Ending} {w' : World} (h : ∃ v, e = .returned v ∧ Own f t w' w.heap.size v xs ∧ Below w.heap.size w w') : RetS f xs w e w' := by
  obtain ⟨v, rfl, hown, hb⟩ := h
  obtain ⟨A, c, rfl, hc, hS⟩ := hown.seg
  exact ⟨A, c, rfl, hc, hS, hb⟩
theorem below_same {w w' : World} (h : w = w') : Below w.heap.size w w' := by subst h; exact Below.refl _ _
theorem below_drawn {w w' : World} {m : Nat} (h : w' = w.drewN m) : Below w.heap.size w w' := by subst h; exact below_drewN (Below.refl _ _) m

section
variable (w : World)
theorem int_s (n : Int) (h0 : -9223372036854775808 ≤ n) (h1 : n ≤ 9223372036854775807) : Calls Try.prog 14 #[.int .i64 n] w (RetS fu8 (encInt n) w) := (int_any n w h0 h1).mono fun _ _ h => retS_of h
theorem bytes_s (s : ByteArray) (hs : s.size ≤ 140737488351232) : Calls Try.prog 16 #[.string s] w (RetS fu8 (encBytes s) w) := (bytes_any s w hs).mono fun _ _ h => retS_of h
theorem ints_s (l : List Int) (A : Option Addr) (c : Nat) (hS : Seg w A (l.map fint)) (hI : InI l) (hl : l.length ≤ 1048576) : Calls Try.prog 18 #[.slice A l.length c] w (RetS fu8 (encInts l) w) := (ints_any l A c w hS hI hl).mono fun _ _ h => retS_of h
theorem strs_s (l : List ByteArray) (A : Option Addr) (c : Nat) (hS : Seg w A (l.map fstr)) (hn : l.length ≤ 1048576) (hl : (encStrs l).length ≤ 140737488351232) : Calls Try.prog 20 #[.slice A l.length c] w (RetS fu8 (encStrs l) w) := (strs_any l A c w hS hn hl).mono fun _ _ h => retS_of h
theorem digs_s (l : List (List UInt8)) (A : Option Addr) (c : Nat) (hS : Seg w A (l.flatten.map fu8)) (h16 : ∀ e ∈ l, e.length = 16) (hn : l.length ≤ 1048576) : Calls Try.prog 22 #[.slice A l.length c] w (RetS fu8 (encDigs l) w) := (digs_any l A c w hS h16 hn).mono fun _ _ h => retS_of h
theorem rint_s (n : Int) (h0 : -9223372036854775808 ≤ n) (h1 : n ≤ 9223372036854775807) : Calls Try.prog 15 #[.int .i64 n] w (RetS fu8 (encInt n) w) := (rint_any n w h0 h1).mono fun _ _ h => retS_of h
theorem rbytes_s (s : ByteArray) (hs : s.size ≤ 140737488351232) : Calls Try.prog 17 #[.string s] w (RetS fu8 (encBytes s) w) := (rbytes_any s w hs).mono fun _ _ h => retS_of h
theorem rints_s (l : List Int) (A : Option Addr) (c : Nat) (hS : Seg w A (l.map fint)) (hI : InI l) (hl : l.length ≤ 1048576) : Calls Try.prog 19 #[.slice A l.length c] w (RetS fu8 (encInts l) w) := (rints_any l A c w hS hI hl).mono fun _ _ h => retS_of h
theorem rstrs_s (l : List ByteArray) (A : Option Addr) (c : Nat) (hS : Seg w A (l.map fstr)) (hn : l.length ≤ 1048576) (hl : (encStrs l).length ≤ 140737488351232) : Calls Try.prog 21 #[.slice A l.length c] w (RetS fu8 (encStrs l) w) := (rstrs_any l A c w hS hn hl).mono fun _ _ h => retS_of h
theorem rdigs_s (l : List (List UInt8)) (A : Option Addr) (c : Nat) (hS : Seg w A (l.flatten.map fu8)) (h16 : ∀ e ∈ l, e.length = 16) (hn : l.length ≤ 1048576) : Calls Try.prog 23 #[.slice A l.length c] w (RetS fu8 (encDigs l) w) := (rdigs_any l A c w hS h16 hn).mono fun _ _ h => retS_of h
theorem getint_s (b : List UInt8) (A : Option Addr) (c : Nat) (hS : Seg w A (b.map fu8)) (hcap : b.length ≤ c) (hl : b.length ≤ 1048576) (n u er : Int) (hd : decInt b = (n, u, er)) : Calls Try.prog 24 #[.slice A b.length c] w (RetV (.tuple #[.int .i64 n, .int .i64 u, .int .i64 er]) w) :=
  (getint_any b A c w hS hcap (by omega)).mono fun _ _ h => by
    obtain ⟨n', u', er', rfl, hd', hw⟩ := h
    rw [hd] at hd'
    simp only [Prod.mk.injEq] at hd'
    obtain ⟨rfl, rfl, rfl⟩ := hd'
    exact ⟨rfl, below_same hw⟩
theorem getbytes_s (b : List UInt8) (A : Option Addr) (c : Nat) (hS : Seg w A (b.map fu8)) (hcap : b.length ≤ c) (hl : b.length ≤ 1048576) (s : ByteArray) (u er : Int) (hd : decBytes b = (s, u, er)) : Calls Try.prog 26 #[.slice A b.length c] w (RetV (.tuple #[.string s, .int .i64 u, .int .i64 er]) w) :=
  (getbytes_any b A c w hS hcap (by omega)).mono fun _ _ h => by
    obtain ⟨n', u', er', rfl, hd', hw⟩ := h
    rw [hd] at hd'
    simp only [Prod.mk.injEq] at hd'
    obtain ⟨rfl, rfl, rfl⟩ := hd'
    exact ⟨rfl, below_same hw⟩
theorem getints_s (b : List UInt8) (A : Option Addr) (c : Nat) (hS : Seg w A (b.map fu8)) (hcap : b.length ≤ c) (hl : b.length ≤ 1048576) (l : List Int) (u er : Int) (hd : decInts b = (l, u, er)) : Calls Try.prog 28 #[.slice A b.length c] w (RetT fint l u er w) :=
  (getints_any b A c w hS hcap hl).mono fun _ _ h => by
    obtain ⟨v, l', u', er', rfl, hd', hown, hb⟩ := h
    rw [hd] at hd'
    simp only [Prod.mk.injEq] at hd'
    obtain ⟨rfl, rfl, rfl⟩ := hd'
    obtain ⟨A', c', rfl, hc, hS⟩ := hown.seg
    exact ⟨A', c', rfl, hc, hS, hb⟩
theorem getstrs_s (b : List UInt8) (A : Option Addr) (c : Nat) (hS : Seg w A (b.map fu8)) (hcap : b.length ≤ c) (hl : b.length ≤ 1048576) (l : List ByteArray) (u er : Int) (hd : decStrs b = (l, u, er)) : Calls Try.prog 31 #[.slice A b.length c] w (RetT fstr l u er w) :=
  (getstrs_any b A c w hS hcap hl).mono fun _ _ h => by
    obtain ⟨v, l', u', er', rfl, hd', hown, hb⟩ := h
    rw [hd] at hd'
    simp only [Prod.mk.injEq] at hd'
    obtain ⟨rfl, rfl, rfl⟩ := hd'
    obtain ⟨A', c', rfl, hc, hS⟩ := hown.seg
    exact ⟨A', c', rfl, hc, hS, hb⟩
/-- A slice of digests comes back. -/
def RetD (xs : List (List UInt8)) (u er : Int) (w : World) (e : Ending) (w' : World) : Prop := ∃ A c, e = .returned (.tuple #[.slice A xs.length c, .int .i64 u, .int .i64 er]) ∧ Seg w' A (xs.flatten.map fu8) ∧ (∀ e ∈ xs, e.length = 16) ∧ Below w.heap.size w w'
theorem OwnD.seg {w : World} {base : Nat} {v : Value} {l : List (List UInt8)} (h : OwnD w base v l) : ∃ A c, v = .slice A l.length c ∧ Seg w A (l.flatten.map fu8) := by
  rcases h.1.2 with ⟨hv, hn⟩ | ⟨g, cap, cur, hv, hb, hh, hnc, _⟩
  · have hl : l = [] := List.eq_nil_of_length_eq_zero hn
    subst hl
    exact ⟨none, 0, hv, Seg.nil _ _⟩
  · exact ⟨_, cap, hv, fun j u hu => ⟨_, rfl, h.1.cells (g := g) (by rw [hv]; rfl) j u hu⟩⟩
theorem getdigs_s (b : List UInt8) (A : Option Addr) (c : Nat) (hS : Seg w A (b.map fu8)) (hcap : b.length ≤ c) (hl : b.length ≤ 1048576) (l : List (List UInt8)) (u er : Int) (hd : decDigs b = (l, u, er)) : Calls Try.prog 34 #[.slice A b.length c] w (RetD l u er w) :=
  (getdigs_any b A c w hS hcap hl).mono fun _ _ h => by
    obtain ⟨v, l', u', er', rfl, hd', hown, hb⟩ := h
    rw [hd] at hd'
    simp only [Prod.mk.injEq] at hd'
    obtain ⟨rfl, rfl, rfl⟩ := hd'
    obtain ⟨A', c', rfl, hS⟩ := hown.seg
    exact ⟨A', c', rfl, hS, hown.2, hb⟩
theorem same_s (xs ys : List UInt8) (A B : Option Addr) (c d : Nat) (hA : Seg w A (xs.map fu8)) (hB : Seg w B (ys.map fu8)) (hl : xs.length ≤ 140737488351232) : Calls Try.prog 13 #[.slice A xs.length c, .slice B ys.length d] w (RetV (.bool (decide (xs = ys))) w) :=
  (same_any xs ys A B c d w hA hB hl).mono fun _ _ h => by obtain ⟨m, h1, h2⟩ := h; exact ⟨h1, below_drawn h2⟩
theorem samei_s (xs ys : List Int) (A B : Option Addr) (c d : Nat) (hA : Seg w A (xs.map fint)) (hB : Seg w B (ys.map fint)) (hl : xs.length ≤ 140737488351232) : Calls Try.prog 30 #[.slice A xs.length c, .slice B ys.length d] w (RetV (.bool (decide (xs = ys))) w) :=
  (samei_any xs ys A B c d w hA hB hl).mono fun _ _ h => by obtain ⟨m, h1, h2⟩ := h; exact ⟨h1, below_drawn h2⟩
theorem sames_s (xs ys : List ByteArray) (A B : Option Addr) (c d : Nat) (hA : Seg w A (xs.map fstr)) (hB : Seg w B (ys.map fstr)) (hl : xs.length ≤ 140737488351232) : Calls Try.prog 33 #[.slice A xs.length c, .slice B ys.length d] w (RetV (.bool (decide (xs = ys))) w) :=
  (sames_any xs ys A B c d w hA hB hl).mono fun _ _ h => by obtain ⟨m, h1, h2⟩ := h; exact ⟨h1, below_drawn h2⟩
theorem samed_s (xs ys : List (List UInt8)) (A B : Option Addr) (c d : Nat) (hA : Seg w A (xs.flatten.map fu8)) (hB : Seg w B (ys.flatten.map fu8)) (hx16 : ∀ e ∈ xs, e.length = 16) (hy16 : ∀ e ∈ ys, e.length = 16) (hl : xs.length ≤ 140737488351232) : Calls Try.prog 36 #[.slice A xs.length c, .slice B ys.length d] w (RetV (.bool (decide (xs = ys))) w) :=
  (samed_any xs ys A B c d w hA hB hx16 hy16 hl).mono fun _ _ h => by obtain ⟨m, h1, h2⟩ := h; exact ⟨h1, below_drawn h2⟩
theorem same_t (xs ys : List UInt8) (A B : Option Addr) (c d : Nat) (hA : Seg w A (xs.map fu8)) (hB : Seg w B (ys.map fu8)) (hl : xs.length ≤ 140737488351232) (h : xs = ys) : Calls Try.prog 13 #[.slice A xs.length c, .slice B ys.length d] w (RetV (.bool true) w) := by
  have := same_s w xs ys A B c d hA hB hl
  rwa [decide_eq_true h] at this
theorem samei_t (xs ys : List Int) (A B : Option Addr) (c d : Nat) (hA : Seg w A (xs.map fint)) (hB : Seg w B (ys.map fint)) (hl : xs.length ≤ 140737488351232) (h : xs = ys) : Calls Try.prog 30 #[.slice A xs.length c, .slice B ys.length d] w (RetV (.bool true) w) := by
  have := samei_s w xs ys A B c d hA hB hl
  rwa [decide_eq_true h] at this
theorem sames_t (xs ys : List ByteArray) (A B : Option Addr) (c d : Nat) (hA : Seg w A (xs.map fstr)) (hB : Seg w B (ys.map fstr)) (hl : xs.length ≤ 140737488351232) (h : xs = ys) : Calls Try.prog 33 #[.slice A xs.length c, .slice B ys.length d] w (RetV (.bool true) w) := by
  have := sames_s w xs ys A B c d hA hB hl
  rwa [decide_eq_true h] at this
theorem samed_t (xs ys : List (List UInt8)) (A B : Option Addr) (c d : Nat) (hA : Seg w A (xs.flatten.map fu8)) (hB : Seg w B (ys.flatten.map fu8)) (hx16 : ∀ e ∈ xs, e.length = 16) (hy16 : ∀ e ∈ ys, e.length = 16) (hl : xs.length ≤ 140737488351232) (h : xs = ys) : Calls Try.prog 36 #[.slice A xs.length c, .slice B ys.length d] w (RetV (.bool true) w) := by
  have := samed_s w xs ys A B c d hA hB hx16 hy16 hl
  rwa [decide_eq_true h] at this
end
end Go.Proofs.Ytdmindmelaemjaa
