import Derived.Test.YtjiphiegpfleeaaGreatDoorRAmAppend
import Derived.Laws.Cells
namespace Go.AM

structure Tab.Ok (P : Program) (T : Tab) : Prop where
  und : ∀ t d, T.und t = some d → P.underlying t = some d
  info : ∀ t i, T.info t = some i → P.info? t = some i
  func : ∀ f fn, T.func f = some fn → P.funcs[f]? = some fn ∧ (fn.name == "runtime.NumGoroutine") = false

section
variable {P : Program} {T : Tab} (hT : T.Ok P) (w : World)

theorem run_und {t : TypeId} {d : TypeDesc} (h : P.underlying t = some d) : (underlying t).run P w = .ok d w := by
  simp only [underlying, Sem.run_bind, run_program, Result.andThen_ok, h, Sem.run_pure]
theorem run_info {t : TypeId} {i : TypeInfo} (h : P.info? t = some i) : (typeInfo t).run P w = .ok i w := by
  simp only [typeInfo, Sem.run_bind, run_program, Result.andThen_ok, h, Sem.run_pure]
include hT
theorem run_size {t n : Nat} (h : T.size t = some n) : (sizeOf t).run P w = .ok n w := by
  unfold Tab.size at h
  split at h
  · rename_i i hi
    injection h with h; subst h
    simp only [sizeOf, Sem.run_bind, run_info w (hT.info _ _ hi), Result.andThen_ok, Sem.run_pure]
  · cases h
theorem run_zero {t : Nat} {z : Value} (h : T.zero t = some z) : (zeroValue t).run P w = .ok z w ∧ constOk z = true := by
  unfold Tab.zero at h
  split at h
  · rename_i i hi
    split at h
    · rename_i z' hz
      cases hc : constOk z' with
      | false => rw [hc] at h; cases h
      | true =>
        rw [hc] at h; simp only [cond_true, Option.some.injEq] at h; subst h
        refine ⟨?_, hc⟩
        simp only [zeroValue, Sem.run_bind, run_info w (hT.info _ _ hi), Result.andThen_ok, hz, Sem.run_pure]
    · cases h
  · cases h
theorem run_isAgg {t : Nat} {b : Bool} (h : T.isAgg t = some b) : (isAgg t).run P w = .ok b w := by
  unfold Tab.isAgg at h
  cases hu : T.und t with
  | none => rw [hu] at h; cases h
  | some d =>
    rw [hu] at h
    have hr := run_und w (hT.und _ _ hu)
    cases d <;> (simp only [Option.some.injEq] at h; subst h; simp only [isAgg, Sem.run_bind, hr, Result.andThen_ok, Sem.run_pure])
end

theorem VRel.base {σ : Emb} {v : Value} (h : baseVal v = true) : VRel σ v v := by
  cases v with
  | bool b => exact .bool b
  | int k n => exact .int k n
  | float k n => exact .float k n
  | string s => exact .string s
  | pointer a => cases a with
    | none => exact .nilPtr
    | some a => simp [baseVal] at h
  | slice a l c =>
    cases a with
    | some a => simp [baseVal] at h
    | none => cases l with
      | succ l => simp [baseVal] at h
      | zero => cases c with
        | succ c => simp [baseVal] at h
        | zero => exact .nilSlice
  | map r => cases r with
    | none => exact .nilMap
    | some a => simp [baseVal] at h
  | nilFunc => exact .nilFunc
  | nilIface => exact .nilIface
  | _ => simp [baseVal] at h

theorem VRels.base {σ : Emb} : ∀ {l : List Value}, l.all baseVal = true → VRels σ l l
  | [], _ => .nil
  | a :: l, h => by
    simp only [List.all_cons, Bool.and_eq_true] at h
    exact .cons (.base h.1) (VRels.base h.2)

theorem VRel.const {σ : Emb} {v : Value} (h : constOk v = true) : VRel σ v v := by
  cases v with
  | agg cs => exact .agg (VRels.base h)
  | _ => exact .base h

/-- frames: what a slot holds -/
def FRel (σ : Emb) (e : Env) (tmps : Array Value) : Prop := ∀ t v, e t = some v → ∃ v', tmps[t]? = some v' ∧ VRel σ v v'
def GRel (σ : Emb) (n : Nat) : Prop := ∀ g, g < n → σ g = some (g, 0)

theorem FRel.mono {σ τ : Emb} (h : Emb.le σ τ) {e : Env} {t : Array Value} (F : FRel σ e t) : FRel τ e t :=
  fun i v hv => let ⟨v', h1, h2⟩ := F i v hv; ⟨v', h1, h2.mono h⟩
theorem GRel.mono {σ τ : Emb} (h : Emb.le σ τ) {n : Nat} (G : GRel σ n) : GRel τ n := fun g hg => (h _ _ (G g hg)).1

theorem ev_rel {T : Tab} {σ : Emb} {e : Env} {a : Act} (F : FRel σ e a.tmps) (G : GRel σ T.nglob) {x : Operand} {v : Value} (h : ev T e x = some v) : VRel σ v (a.eval x) := by
  cases x with
  | tmp t =>
    obtain ⟨v', h1, h2⟩ := F t v h
    have : a.eval (.tmp t) = v' := by simp [Act.eval, Array.getD_eq_getD_getElem?, h1]
    rw [this]; exact h2
  | const c =>
    simp only [ev] at h
    cases hc : constOk c with
    | false => rw [hc] at h; cases h
    | true => rw [hc] at h; simp only [cond_true, Option.some.injEq] at h; subst h; exact .const hc
  | global g =>
    simp only [ev] at h
    cases hc : Nat.blt g T.nglob with
    | false => rw [hc] at h; cases h
    | true =>
      rw [hc] at h; simp only [cond_true, Option.some.injEq] at h; subst h
      have hg : g < T.nglob := Nat.blt_eq.mp hc
      exact VRel.ptr 0 (G g hg)
  | func f =>
    simp only [ev, Option.some.injEq] at h; subst h
    exact .func f .nil .nil

theorem evs_rel {T : Tab} {σ : Emb} {e : Env} {a : Act} (F : FRel σ e a.tmps) (G : GRel σ T.nglob) : ∀ {l : List Operand} {vs : List Value}, evs T e l = some vs → VRels σ vs (l.map a.eval)
  | [], vs, h => by simp only [evs, Option.some.injEq] at h; subst h; exact .nil
  | x :: l, vs, h => by
    simp only [evs] at h
    split at h
    · rename_i v r h1 h2
      injection h with h; subst h
      exact .cons (ev_rel F G h1) (evs_rel F G h2)
    · cases h

/-! reading cells -/
theorem cells_rel {σ : Emb} {h : AHeap} {w : World} (H : HRel σ h w) {b β s : Nat} {vs : List Value} (hb : σ b = some (β, s)) (e : h.cells b = some vs) :
    ∃ c, RowAt w β c ∧ s + vs.length ≤ c.size ∧ VRels σ vs ((c.toList.drop s).take vs.length) := by
  unfold AHeap.cells at e
  split at e
  · rename_i vs' ho
    injection e with e; subst e
    obtain ⟨rfl, c, hc, hr⟩ := H.var b β s vs' hb ho
    have hl := hr.length
    simp only [Array.length_toList] at hl
    exact ⟨c, hc, by omega, by rw [List.drop_zero, List.take_of_length_le (by simp; omega)]; exact hr⟩
  · rename_i vs' k f v ho
    cases hv : Nat.beq v (h.fam f).1 with
    | false => rw [hv] at e; cases e
    | true =>
      rw [hv] at e; simp only [cond_true, Option.some.injEq] at e; subst e
      obtain ⟨c, hc, hl, _, hr⟩ := H.row b β s vs' k f v hb ho (Nat.eq_of_beq_eq_true hv)
      exact ⟨c, hc, hl, hr⟩
  · cases e

theorem run_load_cell (P : Program) {w : World} {a : Addr} {v : Value} (h : w.cell? a = some v) : (load a).run P w = .ok v w := by
  rw [run_load, h]

theorem run_loadVar {P : Program} {T : Tab} (hT : T.Ok P) {σ : Emb} {h : AHeap} {w : World} (H : HRel σ h w) {b β s off t : Nat} {v : Value} (hb : σ b = some (β, s))
    (e : loadA T h t b off = some v) : ∃ v', (loadVar t ⟨β, s + off, none⟩).run P w = .ok v' w ∧ VRel σ v v' := by
  unfold loadA at e
  split at e
  · rename_i vs hvs hagg
    split at e
    · rename_i n hn
      split at e
      · rename_i l hl
        injection e with e; subst e
        obtain ⟨c, hc, hle, hr⟩ := cells_rel H hb hvs
        have hsl := seg_val hl
        have hrel : VRels σ l ((c.toList.drop (s + off)).take n) := by
          have h1 := (hr.drop off).take n
          rw [hsl.1]
          have h2 : (((c.toList.drop s).take vs.length).drop off).take n = (c.toList.drop (s + off)).take n := by
            rcases seg_eq hl with h3 | h3
            · rw [List.drop_take, List.drop_drop, List.take_take, Nat.min_eq_left (by omega)]
            · subst h3; simp
          rw [h2] at h1; exact h1
        have hlen := hrel.length
        have hll := hsl.2
        refine ⟨.agg ((c.toList.drop (s + off)).take n).toArray, ?_, .agg (by simpa using hrel)⟩
        simp only [loadVar, Sem.run_bind, run_isAgg hT w hagg, Result.andThen_ok, if_true, run_size hT w hn]
        have := run_loadCells_list (P := P) w ⟨β, s + off, none⟩ ((c.toList.drop (s + off)).take n) (fun j u hj => by
          rw [add_none, hc.cell]
          have hjn : j < n := by
            rcases Nat.lt_or_ge j ((c.toList.drop (s + off)).take n).length with h' | h'
            · omega
            · rw [List.getElem?_eq_none h'] at hj; cases hj
          rw [List.getElem?_take_of_lt hjn, List.getElem?_drop] at hj
          simpa using hj)
        rw [show ((c.toList.drop (s + off)).take n).length = n by omega] at this
        rw [this]; rfl
      · cases e
    · cases e
  · rename_i vs hvs hagg
    obtain ⟨c, hc, hle, hr⟩ := cells_rel H hb hvs
    rw [nth_eq] at e
    obtain ⟨v', h1, h2⟩ := hr.get _ _ e
    have ho : off < vs.length := by
      rcases Nat.lt_or_ge off vs.length with h' | h'
      · exact h'
      · rw [List.getElem?_eq_none h'] at e; cases e
    rw [List.getElem?_take_of_lt ho, List.getElem?_drop] at h1
    refine ⟨v', ?_, h2⟩
    simp only [loadVar, Sem.run_bind, run_isAgg hT w hagg, Result.andThen_ok, Bool.false_eq_true, if_false]
    exact run_load_cell P (by rw [hc.cell]; simpa using h1)
  · cases e

theorem run_part {P : Program} {T : Tab} (hT : T.Ok P) {σ : Emb} (w : World) {t off : Nat} {cs : List Value} {cs' : Array Value} {v : Value} (hr : VRels σ cs cs'.toList)
    (e : partA T t cs off = some v) : ∃ v', (part t cs' off).run P w = .ok v' w ∧ VRel σ v v' := by
  unfold partA at e
  split at e
  · rename_i hagg
    split at e
    · rename_i n hn
      split at e
      · rename_i l hl
        injection e with e; subst e
        refine ⟨.agg (cs'.extract off (off + n)), ?_, .agg ?_⟩
        · simp only [part, Sem.run_bind, run_isAgg hT w hagg, Result.andThen_ok, if_true, run_size hT w hn, Sem.run_pure]
        · have := (hr.drop off).take n
          rw [← (seg_val hl).1] at this
          simpa [Array.toList_extract, List.extract_eq_take_drop] using this
      · cases e
    · cases e
  · rename_i hagg
    rw [nth_eq] at e
    obtain ⟨v', h1, h2⟩ := hr.get _ _ e
    refine ⟨v', ?_, h2⟩
    have : cs'[off]? = some v' := by simpa using h1
    simp only [part, Sem.run_bind, run_isAgg hT w hagg, Result.andThen_ok, Bool.false_eq_true, if_false, this, Sem.run_pure]
  · cases e

/-- a store -/
theorem run_storeVar {P : Program} {T : Tab} (hT : T.Ok P) {σ : Emb} {h h' : AHeap} {w : World} (H : HRel σ h w) {t : Nat} {a v a' v' : Value} (ra : VRel σ a a') (rv : VRel σ v v')
    (e : storeA T h t a v = some h') : ∃ w', (Instr.storeAt t a' v').run P w = .ok () w' ∧ Step σ h w σ h' w' := by
  unfold storeA at e
  split at e
  · rename_i p n hn
    cases hl : Nat.beq (vcells v).length n with
    | false => rw [hl] at e; cases e
    | true =>
      rw [hl] at e; simp only [cond_true] at e
      cases ra with
      | ptr off hb =>
        rename_i b β s
        dsimp only at e
        have rc := rv.cells
        obtain ⟨c, hc, hle, hone, hstep⟩ := Step.write H hb e rc
        have hlen : v'.cells.toList.length = n := by rw [← rc.length]; exact Nat.eq_of_beq_eq_true hl
        have hsz : ¬ (v'.cells.size ≠ n) := by simpa using hlen
        have hrun : (Instr.storeAt t (.pointer (some ⟨β, s + off, none⟩)) v').run P w = (storeCells ⟨β, s + off, none⟩ v'.cells.toList).run P w := by
          simp only [Instr.storeAt, Instr.sureAddr, storeVar, Sem.run_bind, Sem.run_pure, Result.andThen_ok, run_size hT w hn, Sem.run_ite, hsz, if_false]
        rcases hle with hle | hle
        · obtain ⟨c', w2, r1, r2, r3, r4, r5⟩ := run_storeCells P v'.cells.toList 0 w c β (s + off) hc (by omega) hone
          exact ⟨w2, hrun.trans r1, hstep c' w2 r4 (fun j => by rw [r5]; rfl) r3 r2⟩
        · refine ⟨w, ?_, hstep c w rfl ?_ hc (Wrote.refl w β)⟩
          · rw [hrun, hle]; rfl
          · intro j; rw [hle]; simp only [List.length_nil]; rw [if_neg (by omega)]
  · cases e

end Go.AM
