/-
  A call that is one of several ready operations of a region that draws its order.
-/
import Derived.Test.YtdhakoecjmaebaaStepB
namespace Go.Proofs.Ytdhakoecjmaebaa
open Go.RowKit

section
variable {P : Program} {ops : Array Oper} {Q : Exit → Act → World → Prop} {md : Region.Mode} {S : World → Prop}
theorem ready_call {i d f : Nat} {o : Oper} {args : Array Value} {fuel : Nat} {listed : Array Bool} {a : Act} {w : World} {rs : List Nat} (ho : ops[i]? = some o) (hd : o.dst = some d)
    (hw : Region.wanted o (yielded ops a.tmps) = true) (he : (execOp a.eval o).run P w = .ok (.enter f args) w)
    (h : Calls P f args w fun e w' => ∃ v, e = .returned v ∧ S w' ∧ (S w' → wpAnyH P md ops Q S fuel (listed.setIfInBounds i true) (a.put (some d) v) w')) (hrs : AllReadyH P md ops Q S fuel listed a w rs) : AllReadyH P md ops Q S fuel listed a w (i :: rs) := by
  refine AllReadyH.cons ho (fun K hK => ?_) hrs
  rw [if_pos hw]
  unfold Oper.wp
  rw [he]
  refine Calls.mono h ?_
  rintro e w' ⟨v, rfl, hS, hn⟩
  exact hK.out _ _ hS (fun h' => hd.symm ▸ hn h')
end

end Go.Proofs.Ytdhakoecjmaebaa
