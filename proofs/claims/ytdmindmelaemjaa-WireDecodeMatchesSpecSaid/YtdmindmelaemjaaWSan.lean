/- custodylaw01.sanity returns true, in every world; nothing that was there turns. -/
import Derived.Test.YtdmindmelaemjaaWForms
namespace Go.Proofs.Ytdmindmelaemjaa
open Go.RowKit
theorem lit_seg {α : Type} {f : α → Value} (w : World) (l : List α) (cs : Array Value) (t : TypeId) (h : cs = (l.map f).toArray) : Seg (w.alloc (.cells cs t)) (some ⟨w.heap.size, 0, none⟩) (l.map f) := by
  subst h
  exact seg_new w _ t
theorem cell_z {w : World} {g j : Nat} {xs : List Value} {u : Value} (h : Seg w (some ⟨g, 0, none⟩) xs) (hu : xs[j]? = some u) : w.cell? ⟨g, j, none⟩ = some u := by
  have := h.cell hu
  rwa [add_zero'] at this
theorem bl1 {w w1 : World} {o : Obj} (hb : Below (w.alloc o).heap.size (w.alloc o) w1) : Below w.heap.size w w1 := below_then (alloc_below w o) (by simp) hb
theorem bl2 {w w1 : World} {o p : Obj} (hb : Below ((w.alloc o).alloc p).heap.size ((w.alloc o).alloc p) w1) : Below w.heap.size w w1 := bl1 (bl1 hb)
def b1 : List UInt8 := [130, 1, 0, 9]
def b2 : List UInt8 := [130, 1]
def b3 : List UInt8 := [129, 0]
def b4 : List UInt8 := [129, 2, 97, 98, 7]
def b5 : List UInt8 := [129, 2, 129, 1, 127]
def b8 : List UInt8 := [129, 2, 128, 129, 1, 97, 5]
def b9 : List UInt8 := [129, 2, 128, 129, 1, 97]
def b10 : List UInt8 := [125, 254, 255]
def b11 : List UInt8 := [129, 2, 97, 98]
def dd : List UInt8 := [1, 2, 0, 0, 0, 0, 0, 0, 0, 0, 0, 0, 0, 0, 0, 0]
def ab : ByteArray := ⟨#[97, 98]⟩
def ea : List ByteArray := [⟨#[]⟩, ⟨#[97]⟩]
def pm : List Int := [1, -1]
theorem e1 : decInt b1 = (256, 3, 0) := by decide +kernel
theorem e2 : decInt b2 = (0, 0, 5) := by decide +kernel
theorem e3 : decInt b3 = (0, 0, 6) := by decide +kernel
theorem e4 : decBytes b4 = (⟨#[97, 98]⟩, 4, 0) := by decide +kernel
theorem e5 : decInts b5 = (pm, 5, 0) := by decide +kernel
theorem e7 : decDigs (encDigs [dd]) = ([dd], 18, 0) := by decide +kernel
theorem e8 : decStrs b8 = (ea, 6, 0) := by decide +kernel
theorem e9 : encStrs ea = b9 := by decide +kernel
theorem e10 : encInt (-257) = b10 := by decide +kernel
theorem e11 : encBytes ab = b11 := by decide +kernel
theorem e12 : encInts pm = b5 := by decide +kernel
theorem ipm : InI pm := by unfold InI pm; simp
set_option maxRecDepth 100000 in
set_option maxHeartbeats 4000000 in
theorem sanity_any (w : World) : Calls Try.prog 12 #[] w (RetV (.bool true) w) := by
  go_enter Try.func12, Try.ntmps12
  go_wp2_with fail
  refine (getint_s _ b1 _ 4 (lit_seg w b1 _ 5 rfl) (by decide) (by decide) _ _ _ e1).mono ?_
  rintro e W1 ⟨rfl, hb⟩
  have hx := bl1 hb
  have hB := hx
  clear hx hb
  go_wp2_with fail
  refine (getint_s _ b2 _ 2 (lit_seg W1 b2 _ 5 rfl) (by decide) (by decide) _ _ _ e2).mono ?_
  rintro e W2 ⟨rfl, hb⟩
  have hx := bl1 hb
  replace hB := below_then hB hB.size hx
  clear hx hb
  go_wp2_with fail
  refine (getint_s _ b3 _ 2 (lit_seg W2 b3 _ 5 rfl) (by decide) (by decide) _ _ _ e3).mono ?_
  rintro e W3 ⟨rfl, hb⟩
  have hx := bl1 hb
  replace hB := below_then hB hB.size hx
  clear hx hb
  go_wp2_with fail
  refine (getbytes_s _ b4 _ 5 (lit_seg W3 b4 _ 5 rfl) (by decide) (by decide) _ _ _ e4).mono ?_
  rintro e W4 ⟨rfl, hb⟩
  have hx := bl1 hb
  replace hB := below_then hB hB.size hx
  clear hx hb
  go_wp2_with fail
  refine (getints_s _ b5 _ 5 (lit_seg W4 b5 _ 5 rfl) (by decide) (by decide) _ _ _ e5).mono ?_
  rintro e W5 ⟨Al, cl, rfl, _, sl, hb⟩
  have hx := bl1 hb
  replace hB := below_then hB hB.size hx
  clear hx hb
  go_wp2_with fail
  have sv := (lit_seg (f := fu8) W5 dd #[.int .u8 1, .int .u8 2, .int .u8 0, .int .u8 0, .int .u8 0, .int .u8 0, .int .u8 0, .int .u8 0, .int .u8 0, .int .u8 0, .int .u8 0, .int .u8 0, .int .u8 0, .int .u8 0, .int .u8 0, .int .u8 0] 57 rfl).below (alloc_below (W5.alloc (.cells #[.int .u8 1, .int .u8 2, .int .u8 0, .int .u8 0, .int .u8 0, .int .u8 0, .int .u8 0, .int .u8 0, .int .u8 0, .int .u8 0, .int .u8 0, .int .u8 0, .int .u8 0, .int .u8 0, .int .u8 0, .int .u8 0] 57)) (.cells #[.int .u8 1, .int .u8 2, .int .u8 0, .int .u8 0, .int .u8 0, .int .u8 0, .int .u8 0, .int .u8 0, .int .u8 0, .int .u8 0, .int .u8 0, .int .u8 0, .int .u8 0, .int .u8 0, .int .u8 0, .int .u8 0] 57))
  have sg : Seg ((W5.alloc (.cells #[.int .u8 1, .int .u8 2, .int .u8 0, .int .u8 0, .int .u8 0, .int .u8 0, .int .u8 0, .int .u8 0, .int .u8 0, .int .u8 0, .int .u8 0, .int .u8 0, .int .u8 0, .int .u8 0, .int .u8 0, .int .u8 0] 57)).alloc (.cells #[.int .u8 1, .int .u8 2, .int .u8 0, .int .u8 0, .int .u8 0, .int .u8 0, .int .u8 0, .int .u8 0, .int .u8 0, .int .u8 0, .int .u8 0, .int .u8 0, .int .u8 0, .int .u8 0, .int .u8 0, .int .u8 0] 57)) (some ⟨W5.heap.size + 1, 0, none⟩) ([dd].flatten.map fu8) := by have hq := lit_seg (f := fu8) (W5.alloc (.cells #[.int .u8 1, .int .u8 2, .int .u8 0, .int .u8 0, .int .u8 0, .int .u8 0, .int .u8 0, .int .u8 0, .int .u8 0, .int .u8 0, .int .u8 0, .int .u8 0, .int .u8 0, .int .u8 0, .int .u8 0, .int .u8 0] 57)) dd #[.int .u8 1, .int .u8 2, .int .u8 0, .int .u8 0, .int .u8 0, .int .u8 0, .int .u8 0, .int .u8 0, .int .u8 0, .int .u8 0, .int .u8 0, .int .u8 0, .int .u8 0, .int .u8 0, .int .u8 0, .int .u8 0] 57 rfl; rw [alloc_size] at hq; exact hq
  refine (digs_s _ [dd] _ 1 sg (by decide) (by decide)).mono ?_
  rintro e W6 ⟨Ad, cd, rfl, hcd, sd, hb⟩
  have hx := bl2 hb
  replace hB := below_then hB hB.size hx
  replace sl := sl.below hx
  replace sv := sv.below hb
  clear sg
  clear hx hb
  go_wp2_with fail
  refine (getdigs_s _ (encDigs [dd]) Ad cd sd hcd (by decide +kernel) _ _ _ e7).mono ?_
  rintro e W7 ⟨Ax, cx, rfl, sx, hx16, hb⟩
  have hx := hb
  replace hB := below_then hB hB.size hx
  replace sl := sl.below hx
  replace sd := sd.below hx
  replace sv := sv.below hx
  have HX16 := Lib.hid hx16
  clear hx16
  clear hx hb
  clear sd
  go_wp2_with fail
  refine (getstrs_s _ b8 _ 7 (lit_seg W7 b8 _ 5 rfl) (by decide) (by decide) _ _ _ e8).mono ?_
  rintro e W8 ⟨Ay, cy, rfl, _, sy, hb⟩
  have hx := bl1 hb
  replace hB := below_then hB hB.size hx
  replace sl := sl.below hx
  replace sv := sv.below hx
  replace sx := sx.below hx
  clear hx hb
  go_wp2_with fail
  refine (sames_t _ ea ea Ay _ cy 2 (sy.below (alloc_below _ _)) (lit_seg W8 ea _ 9 rfl) (by decide) rfl).mono ?_
  rintro e W9 ⟨rfl, hb⟩
  have hx := bl1 hb
  replace hB := below_then hB hB.size hx
  replace sl := sl.below hx
  replace sv := sv.below hx
  replace sx := sx.below hx
  replace sy := sy.below hx
  clear hx hb
  clear sy
  go_wp2_with fail
  refine (strs_s _ ea _ 2 (lit_seg W9 ea _ 9 rfl) (by decide) (by decide +kernel)).mono ?_
  rintro e W10 ⟨As, cs, rfl, _, ss, hb⟩
  have hx := bl1 hb
  replace hB := below_then hB hB.size hx
  replace sl := sl.below hx
  replace sv := sv.below hx
  replace sx := sx.below hx
  clear hx hb
  go_wp2_with fail
  refine (same_t _ (encStrs ea) b9 As _ cs 6 (ss.below (alloc_below _ _)) (lit_seg W10 b9 _ 5 rfl) (by decide +kernel) e9).mono ?_
  rintro e W11 ⟨rfl, hb⟩
  have hx := bl1 hb
  replace hB := below_then hB hB.size hx
  replace sl := sl.below hx
  replace sv := sv.below hx
  replace sx := sx.below hx
  replace ss := ss.below hx
  clear hx hb
  clear ss
  go_wp2_with fail
  refine (int_s _ (-257) (by decide) (by decide)).mono ?_
  rintro e W12 ⟨As, cs, rfl, _, ss, hb⟩
  have hx := hb
  replace hB := below_then hB hB.size hx
  replace sl := sl.below hx
  replace sv := sv.below hx
  replace sx := sx.below hx
  clear hx hb
  go_wp2_with fail
  refine (same_t _ (encInt (-257)) b10 As _ cs 3 (ss.below (alloc_below _ _)) (lit_seg W12 b10 _ 5 rfl) (by decide +kernel) e10).mono ?_
  rintro e W13 ⟨rfl, hb⟩
  have hx := bl1 hb
  replace hB := below_then hB hB.size hx
  replace sl := sl.below hx
  replace sv := sv.below hx
  replace sx := sx.below hx
  replace ss := ss.below hx
  clear hx hb
  clear ss
  go_wp2_with fail
  refine (samei_t _ pm pm Al _ cl 2 (sl.below (alloc_below _ _)) (lit_seg W13 pm _ 3 rfl) (by decide) rfl).mono ?_
  rintro e W14 ⟨rfl, hb⟩
  have hx := bl1 hb
  replace hB := below_then hB hB.size hx
  replace sl := sl.below hx
  replace sv := sv.below hx
  replace sx := sx.below hx
  clear hx hb
  clear sl
  go_wp2_with fail
  refine (bytes_s _ ab (by decide)).mono ?_
  rintro e W15 ⟨As, cs, rfl, _, ss, hb⟩
  have hx := hb
  replace hB := below_then hB hB.size hx
  replace sv := sv.below hx
  replace sx := sx.below hx
  clear hx hb
  go_wp2_with fail
  refine (same_t _ (encBytes ab) b11 As _ cs 4 (ss.below (alloc_below _ _)) (lit_seg W15 b11 _ 5 rfl) (by decide +kernel) e11).mono ?_
  rintro e W16 ⟨rfl, hb⟩
  have hx := bl1 hb
  replace hB := below_then hB hB.size hx
  replace sv := sv.below hx
  replace sx := sx.below hx
  replace ss := ss.below hx
  clear hx hb
  clear ss
  go_wp2_with fail
  refine (ints_s _ pm _ 2 (lit_seg W16 pm _ 3 rfl) ipm (by decide)).mono ?_
  rintro e W17 ⟨As, cs, rfl, _, ss, hb⟩
  have hx := bl1 hb
  replace hB := below_then hB hB.size hx
  replace sv := sv.below hx
  replace sx := sx.below hx
  clear hx hb
  go_wp2_with fail
  refine (same_t _ (encInts pm) b5 As _ cs 5 (ss.below (alloc_below _ _)) (lit_seg W17 b5 _ 5 rfl) (by decide +kernel) e12).mono ?_
  rintro e W18 ⟨rfl, hb⟩
  have hx := bl1 hb
  replace hB := below_then hB hB.size hx
  replace sv := sv.below hx
  replace sx := sx.below hx
  replace ss := ss.below hx
  clear hx hb
  clear ss
  have k0 : W18.cell? ⟨W5.heap.size, 0, none⟩ = some (.int .u8 1) := cell_z sv rfl
  have k1 : W18.cell? ⟨W5.heap.size, 1, none⟩ = some (.int .u8 2) := cell_z sv rfl
  have k2 : W18.cell? ⟨W5.heap.size, 2, none⟩ = some (.int .u8 0) := cell_z sv rfl
  have k3 : W18.cell? ⟨W5.heap.size, 3, none⟩ = some (.int .u8 0) := cell_z sv rfl
  have k4 : W18.cell? ⟨W5.heap.size, 4, none⟩ = some (.int .u8 0) := cell_z sv rfl
  have k5 : W18.cell? ⟨W5.heap.size, 5, none⟩ = some (.int .u8 0) := cell_z sv rfl
  have k6 : W18.cell? ⟨W5.heap.size, 6, none⟩ = some (.int .u8 0) := cell_z sv rfl
  have k7 : W18.cell? ⟨W5.heap.size, 7, none⟩ = some (.int .u8 0) := cell_z sv rfl
  have k8 : W18.cell? ⟨W5.heap.size, 8, none⟩ = some (.int .u8 0) := cell_z sv rfl
  have k9 : W18.cell? ⟨W5.heap.size, 9, none⟩ = some (.int .u8 0) := cell_z sv rfl
  have k10 : W18.cell? ⟨W5.heap.size, 10, none⟩ = some (.int .u8 0) := cell_z sv rfl
  have k11 : W18.cell? ⟨W5.heap.size, 11, none⟩ = some (.int .u8 0) := cell_z sv rfl
  have k12 : W18.cell? ⟨W5.heap.size, 12, none⟩ = some (.int .u8 0) := cell_z sv rfl
  have k13 : W18.cell? ⟨W5.heap.size, 13, none⟩ = some (.int .u8 0) := cell_z sv rfl
  have k14 : W18.cell? ⟨W5.heap.size, 14, none⟩ = some (.int .u8 0) := cell_z sv rfl
  have k15 : W18.cell? ⟨W5.heap.size, 15, none⟩ = some (.int .u8 0) := cell_z sv rfl
  go_wp2_with fail
  refine (samed_t _ [dd] [dd] Ax _ cx 1 (sx.below (alloc_below _ _)) (lit_seg (f := fu8) W18 dd _ 57 rfl) HX16.out HX16.out (by decide) rfl).mono ?_
  rintro e W19 ⟨rfl, hb⟩
  have hx := bl1 hb
  replace hB := below_then hB hB.size hx
  replace sv := sv.below hx
  replace sx := sx.below hx
  clear hx hb
  clear sx
  go_wp2_with fail
  go_ret
  exact ⟨rfl, hB⟩
end Go.Proofs.Ytdmindmelaemjaa
