/-
  Closed facts of the row of StoreNone, one theorem each.
-/
import Derived.Test.YtjiphiegpfleeaaGreatDoorRS2Facts
namespace Go.Proofs.YtjiphiegpfleeaaGreatDoorR
open Go
theorem storeNone_0 : (Rows.storeNoneRow.wf (OpenSpec.ofChange Rows.storeNoneSpec) : Bool) = true := by kernel_rfl
theorem storeNone_3 : (Tryz.f3.params.all (Tryz.prog.readableRec ·) : Bool) = true := by kernel_rfl
theorem storeNone_4 : (namedTie Tryz.prog Rows.storeNoneRow.named Rows.storeNoneSpec.vars : Bool) = true := by kernel_rfl
theorem storeNone_5 : ((Rows.storeNoneRow.stops == []) : Bool) = true := by kernel_rfl
theorem storeNone_6 : ((Tryz.prog.stops == []) : Bool) = true := by kernel_rfl
theorem storeNone_7 : ((Rows.storeNoneRow.knobs == []) : Bool) = true := by kernel_rfl
theorem storeNone_8 : ((Tryz.prog.stopKnobs == []) : Bool) = true := by kernel_rfl
theorem storeNone_9 : ((Rows.storeNoneRow.inPlace == Tryz.prog.inPlace 3) : Bool) = true := by kernel_rfl
theorem storeNone_10 : ((Rows.storeNoneRow.unfollowed == Tryz.prog.unfollowed 3) : Bool) = true := by kernel_rfl
theorem storeNone_11 : ((Rows.storeNoneRow.recurses == Tryz.prog.recurses 3) : Bool) = true := by kernel_rfl
theorem storeNone_12 : ((Rows.storeNoneRow.named == Tryz.prog.varsNamed 3) : Bool) = true := by kernel_rfl
theorem storeNone_13 : ((Rows.storeNoneRow.maps == (Tryz.f3.params.toList ++ Rows.storeNoneSpec.plain.varTypes Tryz.prog).any (Tryz.prog.mapsRec ·)) : Bool) = true := by kernel_rfl
theorem storeNone_14 : ((Rows.storeNoneRow.ifaces == (Tryz.f3.params.toList ++ Rows.storeNoneSpec.plain.varTypes Tryz.prog).any (Tryz.prog.ifacesRec ·)) : Bool) = true := by kernel_rfl
theorem storeNone_15 : ((Rows.storeNoneRow.mapsOut == Tryz.prog.mapsAmong Tryz.f3.resultTypes.toList) : Bool) = true := by kernel_rfl
theorem storeNone_16 : ((Rows.storeNoneRow.loops == (Tryz.f3.params.toList ++ Rows.storeNoneSpec.plain.varTypes Tryz.prog).any (Tryz.prog.loopsFrom ·)) : Bool) = true := by kernel_rfl
theorem storeNone_17 : ((Rows.storeNoneRow.wideKeys == (Tryz.f3.params.toList ++ Rows.storeNoneSpec.plain.varTypes Tryz.prog ++ Tryz.f3.resultTypes.toList).any (Tryz.prog.wideKeysFrom ·)) : Bool) = true := by kernel_rfl
theorem storeNone_18 : (Rows.storeNoneSpec.vars.all (Tryz.prog.varReadable ·) : Bool) = true := by kernel_rfl
theorem storeNone_19 : (Tryz.f3.resultTypes.all (fun t => Tryz.prog.readableRec t && decide (t < Tryz.prog.types.size)) : Bool) = true := by kernel_rfl
theorem storeNone_20 : ((Rows.storeNoneRow.ifacesOut == Tryz.f3.resultTypes.toList.any (Tryz.prog.ifacesRec ·)) : Bool) = true := by kernel_rfl
theorem storeNone_21 : ((Rows.storeNoneRow.loopsOut == Tryz.f3.resultTypes.toList.any (Tryz.prog.loopsFrom ·)) : Bool) = true := by kernel_rfl
theorem storeNone_22 : (Rows.storeNoneRow.plainKeys == Tryz.prog.plainKeys) = true := by rw [shared_keys]; rfl
theorem storeNone_23 : (Rows.storeNoneRow.shortTexts.isNone : Bool) = true := by kernel_rfl
theorem storeNone_26 : ((Rows.storeNoneRow.lifted == Tryz.prog.liftsFinal) : Bool) = true := by kernel_rfl
theorem storeNone_27 : ((Tryz.prog.make == some Rows.storeNoneRow.make) : Bool) = true := by kernel_rfl
theorem storeNone_28 : ((Rows.storeNoneRow.kinds == (if Rows.storeNoneRow.domain.isEmpty then [] else Tryz.f3.params.toList.map fun t => match Tryz.prog.underlying t with | some (.int k) => some k | _ => none)) : Bool) = true := by kernel_rfl
theorem storeNone_29 : ((Rows.storeNoneRow.pinned == Rows.storeNoneRow.pinnedBy) : Bool) = true := by kernel_rfl
theorem storeNone_30 : ((Rows.storeNoneRow.veiled == (Tryz.f3.params.toList ++ Rows.storeNoneSpec.plain.varTypes Tryz.prog ++ Tryz.f3.resultTypes.toList).any (Tryz.prog.veiledRec ·)) : Bool) = true := by kernel_rfl
theorem storeNone_31 : (Rows.storeNoneRow.veiledFits Tryz.prog Tryz.f3.params.toList (Tryz.f3.params.toList ++ Rows.storeNoneSpec.plain.varTypes Tryz.prog ++ Tryz.f3.resultTypes.toList) : Bool) = true := by kernel_rfl
end Go.Proofs.YtjiphiegpfleeaaGreatDoorR
