/-
  StoreNone holds of the given program: its tied card is proved by a verified evaluation of the whole law inside the kernel. Conditions: those of the card's own row (listed variables as the text lays them), none beyond.
-/
import Derived.Test.YtjiphiegpfleeaaGreatDoorRS2Post
import Derived.Test.YtjiphiegpfleeaaGreatDoorRS2RunStore
import Derived.Test.YtjiphiegpfleeaaGreatDoorRS2Card
import Derived.Test.YtjiphiegpfleeaaGreatDoorRS2FactsStoreNone
namespace Go.Proofs.YtjiphiegpfleeaaGreatDoorR
open Go.ChangeShapes Go.WideShapes Go.ChangeAt Go.WideMaps Go.WideElems Go.RowKit
open Go.AM (runCall VRels)
open Go.Proofs.S1 (TC says h0 closed)

theorem and2 {a b : Bool} (h : a = true) (k : b = true) : (a && b) = true := by rw [h, k]; rfl
set_option maxRecDepth 100000 in
theorem storeNone_facts : joinedFacts Tryz.prog 3 Tryz.f3 Rows.storeNoneSpec Rows.storeNoneRow = true := by
  unfold joinedFacts
  exact (and2 (and2 (and2 (and2 (and2 (and2 (and2 (and2 (and2 (and2 (and2 (and2 (and2 (and2 (and2 (and2 (and2 (and2 (and2 (and2 (and2 (and2 (and2 (and2 (and2 (and2 (and2 (and2 (and2 (and2 (and2 storeNone_0 shared_1) shared_2) storeNone_3) storeNone_4) storeNone_5) storeNone_6) storeNone_7) storeNone_8) storeNone_9) storeNone_10) storeNone_11) storeNone_12) storeNone_13) storeNone_14) storeNone_15) storeNone_16) storeNone_17) storeNone_18) storeNone_19) storeNone_20) storeNone_21) storeNone_22) storeNone_23) shared_24) shared_25) storeNone_26) storeNone_27) storeNone_28) storeNone_29) storeNone_30) storeNone_31)
theorem storeNone_wf : Rows.storeNoneRow.wfByText (OpenSpec.ofChange Rows.storeNoneSpec) = true := by kernel_rfl
theorem storeNone_goes : false = Rows.storeNoneRow.goesBy Tryz.pinned.checked.prog := goes_by _ rfl
theorem storeNone_named : Tryz.prog.funcNamed "folio/foliolaw24.StoreNone" = some 3 := by kernel_rfl
/-- The door's own heap meets the condition. -/
theorem door_met (os : Os) (args : Array Value) : laidMetH Tryz.prog Rows.storeNoneRow.laid ((World.doorLaid Tryz.prog 400 os).forCall (fun _ _ => 0) ⟨#[], args, []⟩).memory :=
  laidMetH_of_parts3 (fuel := 8) (laidMet_of_run' 8 (by kernel_rfl) (by kernel_rfl)) (by kernel_rfl) (by kernel_rfl)

set_option maxRecDepth 100000 in
theorem store_lifted (os : Os) (started : os.Started) (H : Type) (enc : TypeId × Value → H) :
    ReturnsInHanded {} Tryz.checked os 3 .any (fun w args => (Rows.storeNoneSpec.pre enc Tryz.prog Tryz.f3 [] false w args ∧ laidMetH Tryz.prog Rows.storeNoneRow.laid w) ∧ sizedMet enc Tryz.prog Tryz.f3 (OpenSpec.ofChange Rows.storeNoneSpec) false w args)
      (Rows.storeNoneSpec.post enc Tryz.prog Tryz.f3 false true false false) := by
  refine returnsInHanded_of_change_and (C := Tryz.checked) (X := fun w _ => laidMetH Tryz.prog Rows.storeNoneRow.laid w) (fun _ _ _ hh h => h.of_heap hh) own started (by kernel_rfl) Tryz.func3
    (ChangeSpec.witness_shaped (enc := enc) (C := Tryz.checked) (os := os) (X := fun w _ => laidMetH Tryz.prog Rows.storeNoneRow.laid w) false (World.doorLaid Tryz.prog 400 os) #[] 8 rfl (World.shaped_of_RefB (by kernel_rfl) (by kernel_rfl)) (by kernel_rfl) (by kernel_rfl) (by kernel_rfl) (door_met os _)) ?_
  intro W base args ds gs before hval0 hW _ _ hL _
  have hW' := hW
  obtain ⟨p, q, hA0, hV, rfl, hfz, hnd⟩ := hW
  have hA : DataW.TrodAll enc Tryz.prog W 0 (fun _ => true) true Tryz.f3.params.toList args.toList ds p := hA0
  rw [Tryz.params3] at hA
  obtain ⟨rfl, rfl, rfl⟩ := trodAll_none hA
  obtain ⟨rfl, rfl⟩ := trodVars_none hV
  clear hA hA0 hval0
  simp only [List.append_nil] at hW'
  refine (closed run_store (args' := #[]) .nil W).mono fun e W' h => ?_
  obtain ⟨rfl, hs, hf, ho, hu⟩ := h
  exact ⟨_, rfl, post_flat hW' (fun _ _ _ => trodAll_mk1 (shut_bool Tryz.underlying4 _)) (fun _ => trodAll_mk0) (fun _ => rfl) (fun may => kept_of hf ho hu may) (ok_one (by kernel_rfl) rfl (okWide_bool_mk Tryz.underlying4 _))⟩

theorem storeNone_holds : Rows.StoreNoneSaid :=
  OpenClaim.holds_of_wide 3 Tryz.f3 rfl rfl rfl rfl rfl rfl rfl ⟨rfl, rfl, rfl, rfl, rfl⟩ rfl rfl rfl rfl rfl storeNone_named Tryz.func3 storeNone_facts
    (of_decide_eq_true (by kernel_rfl)) (by unfold Func.isWrapper; first | (rw [if_pos (by decide +kernel)]; kernel_rfl) | (rw [if_neg (by decide +kernel)]; exact ⟨rfl, rfl⟩))
    (fun os started H enc _ => store_lifted os started H enc)

theorem storeNone_card_holds : Rows.StoreNoneCardSaid :=
  Claim7.holds_tied_plain_at .later [] [.data, .data, .data] true (true, "c58679ebd1a8c1ad4353889e0b4e24697574586c8184793f0634d620dae37b6a") true
    storeNone_holds (fun _ h => by cases h) storeNone_wf (fun _ h => by cases h) storeNone_row_tie rfl ⟨rfl, rfl⟩ card_main rfl
    (fun f fn hf hfn => by
      obtain rfl : f = 3 := Option.some.inj (storeNone_named.symm.trans hf) |>.symm
      obtain rfl : fn = Tryz.f3 := (Option.some.inj (Tryz.func3.symm.trans hfn)).symm
      exact ⟨card_looks, fun j t ht => by
        rw [Tryz.params3] at ht
        exact absurd ht (by simp)⟩)
    storeNone_goes
#print axioms storeNone_card_holds
end Go.Proofs.YtjiphiegpfleeaaGreatDoorR
