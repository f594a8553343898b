import Derived.Test.YtjiphiegpfleeaaGreatDoorRS1Tab
import Derived.Test.YtjiphiegpfleeaaGreatDoorRS1Crc
namespace Go.Proofs.S1
open Go Go.AM
def summsC (n : Nat) : Option (List Value → AHeap → Option (Value × AHeap)) := bif Nat.beq n 180 then some sumCrcB else summs n
/-- the tables with all summaries -/
noncomputable def TC : Tab := mkT ft tt skip exts flats summsC
theorem goodB : TB.Good Tryz.prog := ⟨mkT_ok rfl rfl hn, flatOk (T := TB) rfl, extsOk (T := TB) rfl⟩
theorem codesC : CodesOk TC := mkT_codes rfl hc
theorem goodC : TC.Good Tryz.prog := ⟨mkT_ok rfl rfl hn, flatOk (T := TC) rfl, extsOk (T := TC) rfl⟩
theorem summsOkC : SummsOk Tryz.prog TC := by
  intro f s h args hp v h' e
  change summsC f = some s at h
  unfold summsC at h
  rcases bif_some h with ⟨h1, rfl⟩ | h
  · obtain rfl := Nat.eq_of_beq_eq_true h1
    exact crc_sound goodB args hp v h' e
  · exact summsOk f s h args hp v h' e
theorem soundC (n : Nat) : ∀ f args h v h', runCall TC n f args h = some (v, h') → CallSound Tryz.prog TC f args h v h' := am_sound goodC mix codesC summsOkC n

def says (r : Option (Value × AHeap)) : Bool := match r with | some (.bool b, _) => b | _ => false
def h0 : AHeap := ⟨.leaf, 0, .leaf⟩
def σ0 : Emb := ⟨fun _ => none, fun _ => (0, 0)⟩
theorem rel0 (w : World) : HRel σ0 h0 w := by
  constructor
  · intro b β s h; cases h
  · intro b β s vs h; cases h
  · intro b β s vs k f v h; cases h
  · intro b x vs k f v h; cases h
  · intro b x vs h; cases h
  · intro b β s es h; cases h
  · intro b b' β s s' h; cases h
  · intro b _; rfl
  · intro b vs k f v h; cases h
  · intro b vs k f v h; cases h
  · intro f x h; cases h
  · intro f β st vst kt vt b s vs k v h; cases h
/-- what a closed run says, a call says: and it leaves all memory as it was -/
theorem closed {n f : Nat} {args : List Value} {args' : Array Value} (hv : says (runCall TC n f args h0) = true) (ra : VRels σ0 args args'.toList) (w : World) :
    Calls Tryz.prog f args' w fun e w2 => e = .returned (.bool true) ∧ w.heap.size ≤ w2.heap.size ∧ (∀ β, β < w.heap.size → w2.heap[β]? = w.heap[β]?) ∧ w2.os = w.os ∧ w2.output = w.output := by
  unfold says at hv
  split at hv
  · rename_i b h' hr
    subst hv
    refine (soundC n f args h0 _ h' hr σ0 w args' (rel0 w) (fun g hg => by cases hg) ra).mono ?_
    rintro e w2 ⟨v', σ', rfl, S, hv'⟩
    cases hv'
    exact ⟨rfl, S.size, fun β hβ => S.frame β hβ (fun b s h => by cases h), S.os, S.output⟩
  · cases hv
#print axioms closed
end Go.Proofs.S1
