/- A region that draws its order, whose first operation makes memory and whose others only read. -/
import Derived.Test.YtdmindmelaemjaaLTrip
import Derived.BigQuiet
namespace Go.Proofs.Ytdmindmelaemjaa
open Go.RowKit
section
variable {P : Program}
theorem wp_region_head {id : Nat} {o : Oper} {l : List Oper} {Q : Exit → Act → World → Prop} {a : Act} {w : World} (hm : P.follows .mixedOrders = true) (hg : o.guard = none)
    (hr : Region.ready .any (o :: l).toArray (Array.replicate (o :: l).toArray.size false) = [0]) (hs : Region.noSelect (o :: l).toArray = true)
    (hlex : Region.lexFrom .any (o :: l).toArray l.length 1 ((Array.replicate (o :: l).toArray.size false).setIfInBounds 0 true) = true)
    (h : ∀ K : Act → World → Prop, (∀ a1 w1, wpQuiet P (o :: l).toArray (fun w' => ∃ n, w' = w1.drewN n) (fun a' => ∀ w', (∃ n, w' = w1.drewN n) → Q .normal a' w') l a1 → K a1 w1) → Oper.wp P o a w.drew K Q) :
    (Code.region id (o :: l).toArray true).wp P Q a w := by
  refine wp_region_any hm ?_
  show wpAny P .any (o :: l).toArray Q (l.length + 1) _ a w.drew
  refine ⟨fun h0 => ?_, fun i hi => ?_⟩
  · rw [hr] at h0; cases h0
  · rw [hr] at hi
    obtain rfl := List.mem_singleton.1 hi
    unfold wpOp
    have h0 : (o :: l).toArray[0]? = some o := by simp
    simp only [h0]
    have hw : Region.wanted o (yielded (o :: l).toArray a.tmps) = true := by simp [Region.wanted, hg]
    rw [if_pos hw]
    refine Or.inl (h _ fun a1 w1 hq => ?_)
    refine wpAny_of_quiet (C := fun w' => ∃ n, w' = w1.drewN n) (Q := fun a' => ∀ w', (∃ n, w' = w1.drewN n) → Q .normal a' w') (fun _ w' hw' h => h w' hw') _ _ _ _ ⟨0, rfl⟩ ?_
    exact wpAnyQ_lex hs l 1 _ a1 (fun j => by rw [List.getElem?_toArray, Nat.add_comm 1 j]; rfl) hlex hq
end
end Go.Proofs.Ytdmindmelaemjaa
