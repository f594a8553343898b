import Derived.Test.YtjiphiegpfleeaaGreatDoorRS1Closed
import Derived.Test.YtjiphiegpfleeaaGreatDoorRRows
import Derived.Test.YtjiphiegpfleeaaGreatDoorRTie
import Derived.Test.YtjiphiegpfleeaaGreatDoorRCards
import Derived.ProofKit
import Derived.LaidMore
import Derived.OpenShut
import Derived.Stop.Joined
import Derived.SevenTiedAt
namespace Go.Proofs.YtjiphiegpfleeaaGreatDoorR
open Go.ChangeShapes Go.WideShapes Go.ChangeAt Go.WideMaps Go.WideElems Go.RowKit

theorem own : ownKnob Tryz.prog.godebug = none := by kernel_rfl

/-- whoever left all old blocks as they were has kept all -/
theorem kept_of {w w2 : World} (hf : ∀ β, β < w.heap.size → w2.heap[β]? = w.heap[β]?) (ho : w2.os = w.os) (hu : w2.output = w.output) (may : MemPlace → Prop) : w.keptBut w2 may := by
  refine ⟨ho, hu, fun i hi => ?_⟩
  have := World.keptBut_refl w may
  have h2 := this.2.2 i hi
  rw [hf i hi]
  exact h2

section
variable {H : Type} {enc : TypeId × Value → H} {P : Program}
/-- what is left behind a call that reads no memory: nothing that was there has turned -/
theorem post_flat {f : Func} {s : ChangeSpec} {apart fresh handsOn again : Bool} {W W' : World} {args : Array Value} {v : Value} {ds gs : List (DataW H)}
    (hW : DataW.Whole enc P f.params.toList s.vars apart W args.toList ds gs [])
    (hres : ∀ (b : Nat) (sp : Nat → Bool) (hd : Bool), DataW.TrodAll enc P W' b sp hd f.resultTypes.toList (v.resultList f.resultTypes.size) (s.fn H (ds ++ gs)).results [])
    (hargs : ∀ sp : Nat → Bool, DataW.TrodAll enc P W' 0 sp true f.params.toList args.toList (s.fn H (ds ++ gs)).args [])
    (hvars : ∀ sp : Nat → Bool, DataW.TrodVars enc P W' sp s.vars (s.fn H (ds ++ gs)).vars [])
    (hk : ∀ may, W.keptBut W' may)
    (hok : ∀ (j : Nat) (t : TypeId) (r : Value), f.resultTypes[j]? = some t → (v.resultList f.resultTypes.size)[j]? = some r → Value.okWide P W' .any 0 t r) :
    s.post enc P f apart fresh handsOn again W args v W' := by
  refine ⟨ds, gs, [], [], [], [], hW, hres _ _ _, hargs _, hvars _, hk _, fun _ => ?_⟩
  refine ⟨hok, _, _, ([] ++ []) ++ [], ⟨[] ++ [], [], trodAll_append (hargs _) (hres _ _ _), hvars _, rfl, ?_, ?_⟩, ?_⟩
  · intro b off hp
    exact absurd hp (by simp)
  · intro _
    exact List.nodup_nil
  · intro p hp _
    exact absurd hp (by simp)
end
end Go.Proofs.YtjiphiegpfleeaaGreatDoorR
