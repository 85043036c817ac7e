/- Closed facts of this seat's translation: element types' zeros and sizes. -/
import Derived.Test.YtdmindmelaemjaaProg
import Derived.KernelRfl
import Derived.Test.YtdmindmelaemjaaMemC
namespace Go.Proofs.Ytdmindmelaemjaa
open Go.RowKit
theorem inf_u8 : (Try.prog.info? 5).map (fun i => (i.zero, i.size, i.bytes)) = some (some (.int .u8 0), 1, 1) := by kernel_rfl
theorem inf_int : (Try.prog.info? 3).map (fun i => (i.zero, i.size, i.bytes)) = some (some (.int .i64 0), 1, 8) := by kernel_rfl
theorem inf_str : (Try.prog.info? 9).map (fun i => (i.zero, i.size, i.bytes)) = some (some (.string ⟨#[]⟩), 1, 16) := by kernel_rfl
abbrev OwnB := Own fu8 5
abbrev OwnI := Own fint 3
abbrev OwnS := Own fstr 9
section
variable {ops : Array Oper} {rest : List Oper} {o : Oper} {a : Act} {Q : Exit → Act → World → Prop} {w0 W : World} {base : Nat}
/-- append(v, b): one byte. -/
theorem app_b {v : Value} {xs : List UInt8} {y : UInt8} (HO : OwnB W base v xs) (HB : Below base w0 W) (hbase : base ≤ W.heap.size) (hl : xs.length + 1 ≤ 140737488355328) (s x : Operand) (hgd : o.guard = none)
    (ho : o.op = .call { callee := .builtin .append, args := #[s, x], argTypes := #[28, 28] }) (hs : a.eval s = v) (hx : a.eval x = .slice (some ⟨W.heap.size, 0, none⟩) 1 1)
    (h : ∀ v1 w1, OwnB w1 base v1 (xs ++ [y]) → Below base w0 w1 → W.heap.size ≤ w1.heap.size → wpList Try.prog ops Q rest (a.put o.dst v1) w1) :
    wpList Try.prog ops Q (o :: rest) a (W.alloc (.cells #[.int .u8 (y.toNat : Int)] 5)) :=
  app1 (f := fu8) base s x _ _ _ 1 hgd ho Try.underlying28 inf_u8 rfl (by decide) v xs y hs hx rfl HO HB hbase (by omega) h
/-- append(v, s...), s a string. -/
theorem app_s {v : Value} {xs : List UInt8} {y : ByteArray} (HO : OwnB W base v xs) (HB : Below base w0 W) (hbase : base ≤ W.heap.size) (hl : xs.length + y.size ≤ 140737488355328) (s x : Operand) (hgd : o.guard = none)
    (ho : o.op = .call { callee := .builtin .append, args := #[s, x], argTypes := #[28, 9] }) (hs : a.eval s = v) (hx : a.eval x = .string y)
    (h : ∀ v1 w1, OwnB w1 base v1 (xs ++ y.data.toList) → Below base w0 w1 → W.heap.size ≤ w1.heap.size → wpList Try.prog ops Q rest (a.put o.dst v1) w1) :
    wpList Try.prog ops Q (o :: rest) a W :=
  app_str base s x _ _ _ hgd ho Try.underlying28 Try.underlying9 inf_u8 v xs.length (u8s xs) y hs hx HO HB hbase hl fun v1 w1 hown hb hsz =>
    h v1 w1 (Own.of (n := xs.length + y.size) (by rw [List.map_append]; exact hown) (by rw [List.length_append, bl_len])) hb hsz
/-- append(v, ys...), ys read. -/
theorem app_bs {v : Value} {xs ys : List UInt8} {A : Option Addr} {m c : Nat} (HO : OwnB W base v xs) (HB : Below base w0 W) (hbase : base ≤ W.heap.size) (hl : xs.length + ys.length ≤ 140737488355328) (hS : Seg W A (ys.map fu8)) (hm : m = ys.length) (s x : Operand) (hgd : o.guard = none)
    (ho : o.op = .call { callee := .builtin .append, args := #[s, x], argTypes := #[28, 28] }) (hs : a.eval s = v) (hx : a.eval x = .slice A m c)
    (h : ∀ v1 w1, OwnB w1 base v1 (xs ++ ys) → Below base w0 w1 → W.heap.size ≤ w1.heap.size → wpList Try.prog ops Q rest (a.put o.dst v1) w1) :
    wpList Try.prog ops Q (o :: rest) a W :=
  appS (f := fu8) base s x _ _ _ 1 hgd ho Try.underlying28 inf_u8 rfl (by decide) v xs A m c ys hs hx hm hS fu8_one HO HB hbase (by omega) h
end
theorem siz_dig : (Try.prog.info? 57).map (·.size) = some 16 := by kernel_rfl
theorem siz_u8 : (Try.prog.info? 5).map (·.size) = some 1 := by kernel_rfl
theorem run_eq_dig (w : World) (xs ys : List UInt8) (hx : xs.length = 16) (hy : ys.length = 16) : (Op.equalIn 10000 57 (.agg (xs.map fu8).toArray) (.agg (ys.map fu8).toArray)).run Try.prog w = .ok (decide (xs = ys)) w := by
  obtain ⟨i, hi, hs⟩ := Option.map_eq_some_iff.1 siz_u8
  exact run_eq8 Try.underlying57 hi hs Try.underlying5 9998 w xs ys hx hy
theorem run_ld_dig (W : World) (ad : Addr) (xs : List UInt8) (hx : xs.length = 16) (hS : Seg W (some ad) (xs.map fu8)) : (loadCellsFrom ad 0 16 #[]).run Try.prog W = .ok (xs.map fu8).toArray W := by
  have h := run_loadCells_list (P := Try.prog) W ad (xs.map fu8) (fun j v hv => hS.cell hv)
  rw [List.length_map, hx] at h
  exact h

/-! A row of digests: 16 cells an element. -/
theorem inf_dig : (Try.prog.info? 57).map (fun i => (i.zero, i.size, i.bytes)) = some (some (.agg #[.int .u8 0, .int .u8 0, .int .u8 0, .int .u8 0, .int .u8 0, .int .u8 0, .int .u8 0, .int .u8 0, .int .u8 0, .int .u8 0, .int .u8 0, .int .u8 0, .int .u8 0, .int .u8 0, .int .u8 0, .int .u8 0]), 16, 16) := by kernel_rfl
def OwnD (w : World) (base : Nat) (v : Value) (l : List (List UInt8)) : Prop := w.ownsRow base 57 16 v l.length (l.flatten.map fu8) ∧ ∀ e ∈ l, e.length = 16
theorem OwnD.nil (w : World) (base : Nat) : OwnD w base (.slice none 0 0) [] := ⟨World.ownsRow_nil _ _ _ _, fun e h => by simp at h⟩
section
variable {ops : Array Oper} {rest : List Oper} {o : Oper} {a : Act} {Q : Exit → Act → World → Prop} {w0 W : World} {base : Nat}
/-- append(v, d), d a digest that lies in the block that was made last. -/
theorem app_dig {v : Value} {xs : List (List UInt8)} {y : List UInt8} (HO : OwnD W base v xs) (HB : Below base w0 W) (hbase : base ≤ W.heap.size) (hl : xs.length + 1 ≤ 1048577) (hy : y.length = 16) (s x : Operand) (hgd : o.guard = none)
    (ho : o.op = .call { callee := .builtin .append, args := #[s, x], argTypes := #[24, 24] }) (hs : a.eval s = v) (hx : a.eval x = .slice (some ⟨W.heap.size, 0, none⟩) 1 1)
    (h : ∀ v1 w1, OwnD w1 base v1 (xs ++ [y]) → Below base w0 w1 → W.heap.size ≤ w1.heap.size → wpList Try.prog ops Q rest (a.put o.dst v1) w1) :
    wpList Try.prog ops Q (o :: rest) a (W.alloc (.cells (y.map fu8).toArray 57)) :=
  app_row base s x _ _ _ 16 16 hgd ho Try.underlying24 inf_dig rfl (by decide) (by decide) v xs.length (xs.flatten.map fu8) (y.map fu8).toArray hs hx (by simp [hy]) (by simp [fu8_one]) HO.1 HB hbase (by omega)
    fun v1 w1 hown hb hsz => h v1 w1 ⟨by rw [List.length_append, List.length_singleton, List.flatten_append, List.map_append]; simpa using hown, fun e he => by
      rcases List.mem_append.1 he with h2 | h2
      · exact HO.2 e h2
      · rw [List.mem_singleton.1 h2]; exact hy⟩ hb hsz
end
end Go.Proofs.Ytdmindmelaemjaa
