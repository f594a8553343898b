import Derived.Test.YtjiphiegpfleeaaGreatDoorRAmOps
namespace Go.AM

inductive NxRel (σ : Emb) (w : World) : Next' → Result Next → Prop
  | value {v v' : Value} (h : VRel σ v v') : NxRel σ w (.value v) (.ok (.value v') w)
  | skip : NxRel σ w .skip (.ok .skip w)
  | enter {f : Nat} {args : List Value} {args' : Array Value} (h : VRels σ args args'.toList) : NxRel σ w (.enter f args) (.ok (.enter f args') w)

def OpRes (P : Program) (σ : Emb) (h : AHeap) (w : World) (s : Sem Next) (nx : Next') (h' : AHeap) : Prop :=
  ∃ w' σ', Step σ h w σ' h' w' ∧ NxRel σ' w' nx (s.run P w)

section
variable {P : Program} {T : Tab} {σ : Emb} {h h' : AHeap} {w : World}

theorem resPure (H : HRel σ h w) {s : Sem Value} {v v' : Value} (hr : s.run P w = .ok v' w) (rv : VRel σ v v') :
    OpRes P σ h w (do pure (.value (← s))) (.value v) h :=
  ⟨w, σ, Step.refl H, by simp only [Sem.run_bind, hr, Result.andThen_ok, Sem.run_pure]; exact .value rv⟩

theorem resStep {s : Sem Value} {v v' : Value} {w' : World} {σ' : Emb} (S : Step σ h w σ' h' w') (hr : s.run P w = .ok v' w') (rv : VRel σ' v v') :
    OpRes P σ h w (do pure (.value (← s))) (.value v) h' :=
  ⟨w', σ', S, by simp only [Sem.run_bind, hr, Result.andThen_ok, Sem.run_pure]; exact .value rv⟩

theorem resUnit {s : Sem Unit} {w' : World} {σ' : Emb} (S : Step σ h w σ' h' w') (hr : s.run P w = .ok () w') :
    OpRes P σ h w (do s; pure .skip) .skip h' :=
  ⟨w', σ', S, by simp only [Sem.run_bind, hr, Result.andThen_ok, Sem.run_pure]; exact .skip⟩

/-- a new variable -/
theorem newVar_step (H : HRel σ h w) (t : TypeId) {v v' : Value} (rv : VRel σ v v') :
    Step σ h w (σ.ext h.next (w.heap.size, 0) (0, 0)) (h.new (.var (vcells v))).2 (w.alloc (.cells v'.cells t)) :=
  Step.new H (o := .var (vcells v)) ⟨v'.cells, t, (0, 0), rfl, .inl (Nat.le_refl _), rv.cells⟩

theorem newVar_ptr (σ : Emb) (h : AHeap) (w : World) (y : Nat × Nat) : VRel (σ.ext h.next (w.heap.size, 0) y) (.pointer (some ⟨h.next, 0, none⟩)) (.pointer (some ⟨w.heap.size, 0, none⟩)) :=
  VRel.ptr 0 (Emb.ext_same σ h.next (w.heap.size, 0) y)

theorem run_newVar (t : TypeId) (v : Value) : (newVar t v).run P w = .ok ⟨w.heap.size, 0, none⟩ (w.alloc (.cells v.cells t)) := by
  simp only [newVar, newRow, Sem.run_bind, run_newObj, Result.andThen_ok, Sem.run_pure]; rfl
theorem run_newRow (t : TypeId) (c : Array Value) : (newRow t c).run P w = .ok ⟨w.heap.size, 0, none⟩ (w.alloc (.cells c t)) := by
  simp only [newRow, Sem.run_bind, run_newObj, Result.andThen_ok, Sem.run_pure]; rfl

theorem snd_alloc (hT : T.Ok P) (H : HRel σ h w) {t : Nat} {z : Value} (hz : T.zero t = some z) :
    OpRes P σ h w (do pure (.value (← Instr.alloc t true (.tuple #[])))) (.value (.pointer (some ⟨h.next, 0, none⟩))) (h.new (.var (vcells z))).2 := by
  obtain ⟨hr, hc⟩ := run_zero hT w hz
  refine resStep (newVar_step H t (.const hc)) (v' := .pointer (some ⟨w.heap.size, 0, none⟩)) ?_ (newVar_ptr σ h w _)
  simp only [Instr.alloc, Sem.run_bind, hr, Result.andThen_ok, run_newVar, Sem.run_pure]

theorem snd_box (H : HRel σ h w) (t : Nat) {v v' : Value} (rv : VRel σ v v') :
    OpRes P σ h w (do pure (.value (← Instr.box t v'))) (.value (.pointer (some ⟨h.next, 0, none⟩))) (h.new (.var (vcells v))).2 := by
  refine resStep (newVar_step H t rv) (v' := .pointer (some ⟨w.heap.size, 0, none⟩)) ?_ (newVar_ptr σ h w _)
  simp only [Instr.box, Sem.run_bind, run_newVar, Result.andThen_ok, Sem.run_pure]

/-! building aggregates -/
theorem put_spec (off : Nat) : ∀ (xs : List Value) (k : Nat) (c : Array Value),
    let r := (xs.zipIdx k).foldl (fun (cs : Array Value) (x : Value × Nat) => match x with | (c, j) => cs.setIfInBounds (off + j) c) c
    r.size = c.size ∧ ∀ j, off + k + xs.length ≤ c.size → r[j]? = if off + k ≤ j ∧ j < off + k + xs.length then xs[j - (off + k)]? else c[j]?
  | [], k, c => by
    refine ⟨rfl, fun j _ => ?_⟩
    simp only [List.zipIdx_nil, List.foldl_nil, List.length_nil]; rw [if_neg (by omega)]
  | x :: xs, k, c => by
    obtain ⟨h1, h2⟩ := put_spec off xs (k + 1) (c.setIfInBounds (off + k) x)
    simp only [List.zipIdx_cons, List.foldl_cons]
    refine ⟨by rw [h1]; simp, fun j hj => ?_⟩
    simp only [List.length_cons] at hj
    rw [h2 j (by simp; omega)]
    simp only [List.length_cons]
    by_cases hj' : off + k ≤ j ∧ j < off + k + (xs.length + 1)
    · rw [if_pos hj']
      by_cases e : j = off + k
      · subst e
        rw [if_neg (by omega)]
        simp only [Nat.sub_self, List.getElem?_cons_zero]
        rw [Array.getElem?_setIfInBounds]; simp; omega
      · rw [if_pos (by omega)]
        have : j - (off + k) = (j - (off + (k + 1))) + 1 := by omega
        rw [this, List.getElem?_cons_succ]
    · rw [if_neg hj', if_neg (by omega), Array.getElem?_setIfInBounds, if_neg (by omega)]

theorem put_over {xs r : List Value} {c : Array Value} {off : Nat} (h : over c.toList off xs = some r) (hl : off + xs.length ≤ c.size) :
    ((xs.toArray.zipIdx.foldl (fun (cs : Array Value) (x : Value × Nat) => match x with | (c, j) => cs.setIfInBounds (off + j) c) c)).toList = r := by
  obtain ⟨h1, h2, h3⟩ := over_spec h
  have e : (xs.toArray.zipIdx.foldl (fun (cs : Array Value) (x : Value × Nat) => match x with | (c, j) => cs.setIfInBounds (off + j) c) c) =
      (xs.zipIdx 0).foldl (fun (cs : Array Value) (x : Value × Nat) => match x with | (c, j) => cs.setIfInBounds (off + j) c) c := by
    rw [← Array.foldl_toList]; simp
  rw [e]
  obtain ⟨g1, g2⟩ := put_spec off xs 0 c
  apply List.ext_getElem?
  intro j
  rw [h3, Array.getElem?_toList, g2 j (by omega)]
  simp

theorem fill_rel {place : Nat → Option (Nat × Nat)} : ∀ {ps : List (Nat × Value)} {ps' : List (Nat × Value)} {cells r : List Value} {cells' : Array Value},
    (∀ i : Nat, (ps[i]?).isSome = (ps'[i]?).isSome) → (∀ (i : Nat) x x', ps[i]? = some x → ps'[i]? = some x' → x.1 = x'.1 ∧ VRel σ x.2 x'.2) →
    VRels σ cells cells'.toList → fillA place cells ps = some r → ∃ r', Instr.fill place cells' ps' = some r' ∧ VRels σ r r'.toList
  | [], [], cells, r, cells', _, _, hc, e => by
    simp only [fillA, Option.some.injEq] at e; subst e
    exact ⟨cells', rfl, hc⟩
  | [], _ :: _, _, _, _, hl, _, _, _ => by have := hl 0; simp at this
  | _ :: _, [], _, _, _, hl, _, _, _ => by have := hl 0; simp at this
  | (i, v) :: ps, (i', v') :: ps', cells, r, cells', hl, hp, hc, e => by
    obtain ⟨h1, h2⟩ := hp 0 (i, v) (i', v') rfl rfl
    dsimp only at h1 h2
    subst h1
    simp only [fillA] at e
    split at e
    · rename_i off size hpl
      cases hcond : Nat.beq (vcells v).length size && Nat.ble (off + size) cells.length with
      | false => rw [hcond] at e; cases e
      | true =>
        rw [hcond] at e; simp only [cond_true] at e
        simp only [Bool.and_eq_true] at hcond
        have hsz := Nat.eq_of_beq_eq_true hcond.1
        have hle := Nat.le_of_ble_eq_true hcond.2
        split at e
        · rename_i cs hov
          have rc := h2.cells
          have rl := rc.length
          have cl := hc.length
          obtain ⟨cs', ho', hr'⟩ := hc.over rc hov
          have hput := put_over ho' (by simp only [Array.length_toList] at cl rl ⊢; omega)
          simp only [Array.toArray_toList] at hput
          rw [← hput] at hr'
          obtain ⟨r', q1, q2⟩ := fill_rel (fun j => by simpa using hl (j + 1)) (fun j x x' a b => hp (j + 1) x x' (by simpa using a) (by simpa using b)) hr' e
          refine ⟨r', ?_, q2⟩
          simp only [Instr.fill, hpl]
          rw [if_neg]
          · exact q1
          · simp only [Array.length_toList] at cl rl
            simp only [bne_iff_ne, ne_eq, Bool.or_eq_true, decide_eq_true_eq]
            omega
        · cases e
    · cases e

theorem parts_rel {e : Env} {a : Act} (F : FRel σ e a.tmps) (G : GRel σ T.nglob) : ∀ {l : List (Nat × Operand)} {r : List (Nat × Value)}, parts T e l = some r →
    (∀ i : Nat, (r[i]?).isSome = ((l.map fun p => (p.1, a.eval p.2))[i]?).isSome) ∧
    (∀ (i : Nat) x x', r[i]? = some x → (l.map fun p => (p.1, a.eval p.2))[i]? = some x' → x.1 = x'.1 ∧ VRel σ x.2 x'.2)
  | [], r, h => by simp only [parts, Option.some.injEq] at h; subst h; simp
  | (i, x) :: l, r, h => by
    simp only [parts] at h
    split at h
    · rename_i v q h1 h2
      injection h with h; subst h
      obtain ⟨g1, g2⟩ := parts_rel F G h2
      refine ⟨fun j => ?_, fun j y y' => ?_⟩
      · cases j with
        | zero => simp
        | succ j => simpa using g1 j
      · cases j with
        | zero =>
          intro e1 e2
          simp at e1 e2; subst e1; subst e2
          exact ⟨rfl, ev_rel F G h1⟩
        | succ j => intro e1 e2; exact g2 j y y' (by simpa using e1) (by simpa using e2)
    · cases h

theorem parts_map (ps : Array (Nat × Operand)) (ρ : Operand → Value) : ((ps.map fun (i, x) => (i, ρ x)).toList) = ps.toList.map fun p => (p.1, ρ p.2) := by
  rw [Array.toList_map]

theorem run_places (hT : T.Ok P) (w : World) : ∀ {fs : List Field} {pl : List (Nat × Nat)}, placesA T fs = some pl →
    (fs.mapM (m := Sem) fun f => do pure (f.offset, ← sizeOf f.type)).run P w = .ok pl w
  | [], pl, h => by simp only [placesA, Option.some.injEq] at h; subst h; rfl
  | f :: fs, pl, h => by
    simp only [placesA] at h
    split at h
    · rename_i n r h1 h2
      injection h with h; subst h
      simp only [List.mapM_cons, Sem.run_bind, run_size hT w h1, Result.andThen_ok, Sem.run_pure, run_places hT w h2]
    · cases h

theorem run_placesA (hT : T.Ok P) (w : World) {fs : Array Field} {pl : List (Nat × Nat)} (h : placesA T fs.toList = some pl) :
    (fs.mapM (m := Sem) fun f => do pure (f.offset, ← sizeOf f.type)).run P w = .ok pl.toArray w := by
  have := run_places hT w h
  rw [Array.mapM_eq_mapM_toList, Sem.run_map, this]
  rfl

theorem snd_build (hT : T.Ok P) (H : HRel σ h w) {e : Env} {a : Act} (F : FRel σ e a.tmps) (G : GRel σ T.nglob) {t : Nat} {ps : Array (Nat × Operand)} {l : List (Nat × Value)} {v : Value}
    (hl : parts T e ps.toList = some l) (hb : buildA T t l = some v) :
    OpRes P σ h w (do pure (.value (← Instr.build t (ps.map fun (i, x) => (i, a.eval x))))) (.value v) h := by
  obtain ⟨p1, p2⟩ := parts_rel F G hl
  unfold buildA at hb
  split at hb
  · rename_i z fs hz hu
    obtain ⟨rz, cz⟩ := run_zero hT w hz
    split at hb
    · rename_i pl hpl
      split at hb
      · rename_i r hr
        injection hb with hb; subst hb
        obtain ⟨r', q1, q2⟩ := fill_rel p1 p2 (VRel.const (σ := σ) cz).cells hr
        refine resPure H (v' := .agg r') ?_ (.agg (by simpa using q2))
        simp only [Instr.build, Sem.run_bind, rz, Result.andThen_ok, run_und w (hT.und _ _ hu), run_placesA hT w hpl]
        have : Instr.fill (pl.toArray[·]?) z.cells (ps.map fun (i, x) => (i, a.eval x)).toList = some r' := by
          rw [parts_map, ← q1]
          congr 1
          funext i
          rw [nth_eq]; simp
        rw [this]
        rfl
      · cases hb
    · cases hb
  · rename_i z n el hz hu
    obtain ⟨rz, cz⟩ := run_zero hT w hz
    split at hb
    · rename_i k hk
      split at hb
      · rename_i r hr
        injection hb with hb; subst hb
        obtain ⟨r', q1, q2⟩ := fill_rel p1 p2 (VRel.const (σ := σ) cz).cells hr
        refine resPure H (v' := .agg r') ?_ (.agg (by simpa using q2))
        simp only [Instr.build, Sem.run_bind, rz, Result.andThen_ok, run_und w (hT.und _ _ hu), run_size hT w hk]
        rw [parts_map, q1]
        rfl
      · cases hb
    · cases hb
  · cases hb

theorem rept_length {α : Type} (l : List α) : ∀ n, (rept l n).length = n * l.length
  | 0 => by simp [rept]
  | n + 1 => by simp [rept, rept_length l n, Nat.succ_mul]; omega

theorem rept_get {α : Type} {l : List α} (hl : 0 < l.length) : ∀ (n i : Nat), i < n * l.length → (rept l n)[i]? = l[i % l.length]?
  | 0, i, h => by omega
  | n + 1, i, h => by
    rw [rept]
    rcases Nat.lt_or_ge i l.length with h' | h'
    · rw [List.getElem?_append_left h', Nat.mod_eq_of_lt h']
    · rw [List.getElem?_append_right h', rept_get hl n _ (by rw [Nat.succ_mul] at h; omega), Nat.mod_eq_sub_mod h']

/-- the model's zero cells of a row -/
theorem zeros_eq (z : Array Value) (k n : Nat) (hz : z.size = k) (c : Array Value) (hc : c = if n * k = 0 then #[] else z) :
    ((Array.range (n * k)).map (fun i => c[i % c.size]!)).toList = rept z.toList n := by
  by_cases h0 : n * k = 0
  · have hl : (rept z.toList n).length = 0 := by rw [rept_length]; simp [hz, h0]
    rw [List.eq_nil_of_length_eq_zero hl, h0]; simp
  · rw [if_neg h0] at hc
    subst hc
    have hk : 0 < k := by rcases Nat.eq_zero_or_pos k with h | h <;> simp_all
    apply List.ext_getElem?
    intro i
    rw [Array.toList_map, Array.toList_range, List.getElem?_map]
    by_cases hi : i < n * k
    · rw [List.getElem?_range hi, rept_get (by simp; omega) n i (by simpa [hz] using hi)]
      simp only [Option.map_some, Array.length_toList, Array.getElem?_toList, hz]
      have : i % k < c.size := by rw [hz]; exact Nat.mod_lt _ hk
      rw [getElem!_pos c (i % k) this, Array.getElem?_eq_getElem this]
    · rw [List.getElem?_eq_none (by simp; omega), List.getElem?_eq_none (by rw [rept_length]; simp [hz]; omega)]; rfl

theorem zeroRow_spec (hT : T.Ok P) (w : World) {el n : Nat} {l : List Value} (h : zeroRow T el n = some l) :
    ∃ z k, T.zero el = some z ∧ T.size el = some k ∧ z.cells.size = k ∧ constOk z = true ∧ l = rept z.cells.toList n := by
  unfold zeroRow at h
  split at h
  · rename_i z k hz hk
    cases hb : Nat.beq (vcells z).length k with
    | false => rw [hb] at h; cases h
    | true =>
      rw [hb] at h; simp only [cond_true, Option.some.injEq] at h
      have hc := (run_zero hT w hz).2
      have hv : vcells z = z.cells.toList := by
        cases z <;> rfl
      refine ⟨z, k, hz, hk, ?_, hc, ?_⟩
      · have := Nat.eq_of_beq_eq_true hb
        rw [hv] at this; simpa using this
      · rw [← hv]; exact h.symm
  · cases h

theorem VRels.rept {l l' : List Value} (hl : VRels σ l l') : ∀ n, VRels σ (AM.rept l n) (AM.rept l' n)
  | 0 => .nil
  | n + 1 => hl.append (VRels.rept hl n)

theorem newRow_step (H : HRel σ h w) (t : TypeId) (k : Nat) {vs : List Value} {c : Array Value} (fr : Nat × Nat) (hfr : fr.2 ≤ fr.1 ∨ c.size ≤ fr.1) (hl : vs.length ≤ c.size) (hr : VRels σ vs (c.toList.take vs.length)) :
    Step σ h w (σ.ext h.next (w.heap.size, 0) (k, c.size)) (h.newRow k vs).2 (w.alloc (.cells c t fr)) :=
  Step.new H (o := .row vs k h.next 0) ⟨rfl, rfl, c, t, fr, rfl, hfr, hl, hr⟩

theorem newRow_val (σ : Emb) (h : AHeap) (w : World) {k lim n m cap : Nat} (h1 : n ≤ m) (h2 : m ≤ cap) (h3 : k = 0 ∨ cap * k ≤ lim) :
    VRel (σ.ext h.next (w.heap.size, 0) (k, lim)) (.slice (some ⟨h.next, 0, none⟩) n m) (.slice (some ⟨w.heap.size, 0, none⟩) n cap) :=
  VRel.slice (Emb.ext_same σ h.next (w.heap.size, 0) (k, lim)) h1 h2 (.inl ⟨rfl, by rw [Emb.kl_same]; simpa using h3⟩)

theorem snd_buildSlice (hT : T.Ok P) (H : HRel σ h w) {e : Env} {a : Act} (F : FRel σ e a.tmps) (G : GRel σ T.nglob) {t el n k : Nat} {ps : Array (Nat × Operand)} {l : List (Nat × Value)} {z r : List Value}
    (hl : parts T e ps.toList = some l) (hu : T.und t = some (.slice el)) (hk : T.size el = some k) (hz : zeroRow T el n = some z) (hn : n * k ≤ 16777216)
    (hf : fillA (fun i => some (i * k, k)) z l = some r) :
    OpRes P σ h w (do pure (.value (← Instr.buildSlice t n (ps.map fun (i, x) => (i, a.eval x))))) (.value (.slice (some ⟨h.next, 0, none⟩) n n)) (h.newRow k r).2 := by
  obtain ⟨p1, p2⟩ := parts_rel F G hl
  obtain ⟨z0, k', hz0, hk', hzs, hzc, rfl⟩ := zeroRow_spec hT w hz
  rw [hk] at hk'; injection hk' with hk'; subst hk'
  obtain ⟨rz, _⟩ := run_zero hT w hz0
  let c0 : Array Value := if n * k = 0 then #[] else z0.cells
  have hc0 : ((Array.range (n * k)).map (fun i => c0[i % c0.size]!)).toList = rept z0.cells.toList n := zeros_eq z0.cells k n hzs c0 rfl
  obtain ⟨r', q1, q2⟩ := fill_rel (cells' := (Array.range (n * k)).map (fun i => c0[i % c0.size]!)) p1 p2 (by
    rw [hc0]
    have x := (VRel.const (σ := σ) hzc).cells.rept n
    have hv : vcells z0 = z0.cells.toList := by cases z0 <;> rfl
    rw [hv] at x; exact x) hf
  have hlen := q2.length
  simp only [Array.length_toList] at hlen
  have hrl : r.length = n * k := by
    have : ∀ {ps : List (Nat × Value)} {cells r : List Value}, fillA (fun i => some (i * k, k)) cells ps = some r → r.length = cells.length := by
      intro ps
      induction ps with
      | nil => intro cells r h; simp only [fillA, Option.some.injEq] at h; rw [h]
      | cons p ps ih =>
        intro cells r h
        obtain ⟨i, v⟩ := p
        simp only [fillA] at h
        cases hcond : Nat.beq (vcells v).length k && Nat.ble (i * k + k) cells.length with
        | false => rw [hcond] at h; cases h
        | true =>
          rw [hcond] at h; simp only [cond_true] at h
          split at h
          · rename_i cs ho
            rw [ih h, (over_spec ho).1]
          · cases h
    rw [this hf, rept_length]; simp [hzs]
  refine resStep (newRow_step H el k (0, 0) (.inl (Nat.le_refl _)) (c := r') (by omega) (by rw [List.take_of_length_le (by simp; omega)]; exact q2))
    (v' := .slice (some ⟨w.heap.size, 0, none⟩) n n) ?_ (newRow_val σ h w (Nat.le_refl _) (Nat.le_refl _) (.inr (by omega)))
  have hsz : ¬ (n * k > 2 ^ 24) := by have : (2 : Nat) ^ 24 = 16777216 := rfl; omega
  simp only [Instr.buildSlice, Sem.run_bind, run_und w (hT.und _ _ hu), Result.andThen_ok, run_size hT w hk, hsz, if_false]
  simp only [Sem.run_ite]
  by_cases h0 : n * k = 0
  · rw [if_pos h0]
    have hc : c0 = #[] := if_pos h0
    rw [hc] at q1
    simp only [Sem.run_bind, Sem.run_pure, Result.andThen_ok]
    rw [parts_map, q1]
    simp only [Sem.run_bind, run_newRow, Result.andThen_ok, Sem.run_pure]
  · rw [if_neg h0]
    have hc : c0 = z0.cells := if_neg h0
    rw [hc] at q1
    simp only [Sem.run_bind, rz, Sem.run_pure, Result.andThen_ok]
    rw [parts_map, q1]
    simp only [Sem.run_bind, run_newRow, Result.andThen_ok, Sem.run_pure]
end
end Go.AM
