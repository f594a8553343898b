import Derived.Test.YtjiphiegpfleeaaGreatDoorRAmDraw3
namespace Go.AM

/-- what an operation makes that does not act: a variable or a row -/
inductive ANew where
  | var (vs : List Value)
  | row (vs : List Value) (k : Nat)

def ANew.obj (a : ANew) (b : Nat) : AObj := match a with | .var vs => .var vs | .row vs k => .row vs k b 0

def NewC (σ : Emb) (a : ANew) (x : Obj) : Prop :=
  match a with
  | .var vs => ∃ c el fr, x = .cells c el fr ∧ (fr.2 ≤ fr.1 ∨ c.size ≤ fr.1) ∧ VRels σ vs c.toList
  | .row vs _ => ∃ c el fr, x = .cells c el fr ∧ (fr.2 ≤ fr.1 ∨ c.size ≤ fr.1) ∧ vs.length ≤ c.size ∧ VRels σ vs (c.toList.take vs.length)

def AlRes (P : Program) (σ : Emb) (w : World) (s : Sem Next) (a : ANew) (v : Nat → Value) : Prop :=
  ∃ x v', s.run P w = .ok (.value v') (w.alloc x) ∧ NewC σ a x ∧
    ∀ (τ : Emb) (b : Nat), τ b = some (w.heap.size, 0) → τ.kl b = newKl (a.obj b) x → VRel τ (v b) v'

section
variable {P : Program} {T : Tab} {σ : Emb} {w : World}

theorem al_alloc (hT : T.Ok P) {t : Nat} {z : Value} (hz : T.zero t = some z) :
    AlRes P σ w (do pure (.value (← Instr.alloc t true (.tuple #[])))) (.var (vcells z)) (fun b => .pointer (some ⟨b, 0, none⟩)) := by
  obtain ⟨hr, hc⟩ := run_zero hT w hz
  refine ⟨.cells z.cells t (0, 0), .pointer (some ⟨w.heap.size, 0, none⟩), ?_, ⟨_, _, _, rfl, .inl (Nat.le_refl _), (VRel.const hc).cells⟩, fun τ b h1 _ => .ptr 0 h1⟩
  simp only [Instr.alloc, Sem.run_bind, hr, Result.andThen_ok, run_newVar, Sem.run_pure]

theorem al_box (t : Nat) {v v' : Value} (rv : VRel σ v v') :
    AlRes P σ w (do pure (.value (← Instr.box t v'))) (.var (vcells v)) (fun b => .pointer (some ⟨b, 0, none⟩)) := by
  refine ⟨.cells v'.cells t (0, 0), .pointer (some ⟨w.heap.size, 0, none⟩), ?_, ⟨_, _, _, rfl, .inl (Nat.le_refl _), rv.cells⟩, fun τ b h1 _ => .ptr 0 h1⟩
  simp only [Instr.box, Sem.run_bind, run_newVar, Result.andThen_ok, Sem.run_pure]

theorem al_buildSlice (hT : T.Ok P) {e : Env} {a : Act} (F : FRel σ e a.tmps) (G : GRel σ T.nglob) {t el n k : Nat} {ps : Array (Nat × Operand)} {l : List (Nat × Value)} {z r : List Value}
    (hl : parts T e ps.toList = some l) (hu : T.und t = some (.slice el)) (hk : T.size el = some k) (hz : zeroRow T el n = some z) (hn : n * k ≤ 16777216)
    (hf : fillA (fun i => some (i * k, k)) z l = some r) :
    AlRes P σ w (do pure (.value (← Instr.buildSlice t n (ps.map fun (i, x) => (i, a.eval x))))) (.row r k) (fun b => .slice (some ⟨b, 0, none⟩) n n) := by
  obtain ⟨p1, p2⟩ := parts_rel F G hl
  obtain ⟨z0, k', hz0, hk', hzs, hzc, rfl⟩ := zeroRow_spec hT w hz
  rw [hk] at hk'; injection hk' with hk'; subst hk'
  obtain ⟨rz, _⟩ := run_zero hT w hz0
  let c0 : Array Value := if n * k = 0 then #[] else z0.cells
  have hc0 : ((Array.range (n * k)).map (fun i => c0[i % c0.size]!)).toList = rept z0.cells.toList n := zeros_eq z0.cells k n hzs c0 rfl
  obtain ⟨r', q1, q2⟩ := fill_rel (cells' := (Array.range (n * k)).map (fun i => c0[i % c0.size]!)) p1 p2 (by
    rw [hc0]
    have x := (VRel.const (σ := σ) hzc).cells.rept n
    have hv : vcells z0 = z0.cells.toList := by cases z0 <;> rfl
    rw [hv] at x; exact x) hf
  have hlen := q2.length
  simp only [Array.length_toList] at hlen
  have hrl : r.length = n * k := by
    have : ∀ {ps : List (Nat × Value)} {cells r : List Value}, fillA (fun i => some (i * k, k)) cells ps = some r → r.length = cells.length := by
      intro ps
      induction ps with
      | nil => intro cells r h; simp only [fillA, Option.some.injEq] at h; rw [h]
      | cons p ps ih =>
        intro cells r h
        obtain ⟨i, v⟩ := p
        simp only [fillA] at h
        cases hcond : Nat.beq (vcells v).length k && Nat.ble (i * k + k) cells.length with
        | false => rw [hcond] at h; cases h
        | true =>
          rw [hcond] at h; simp only [cond_true] at h
          split at h
          · rename_i cs ho
            rw [ih h, (over_spec ho).1]
          · cases h
    rw [this hf, rept_length]; simp [hzs]
  refine ⟨.cells r' el (0, 0), .slice (some ⟨w.heap.size, 0, none⟩) n n, ?_, ⟨r', el, (0, 0), rfl, .inl (Nat.le_refl _), by omega, by rw [List.take_of_length_le (by simp; omega)]; exact q2⟩,
    fun τ b h1 h2 => .slice h1 (Nat.le_refl _) (Nat.le_refl _) (.inl ⟨rfl, .inr (by rw [h2]; simp only [ANew.obj, newKl]; omega)⟩)⟩
  have hsz : ¬ (n * k > 2 ^ 24) := by have : (2 : Nat) ^ 24 = 16777216 := rfl; omega
  simp only [Instr.buildSlice, Sem.run_bind, run_und w (hT.und _ _ hu), Result.andThen_ok, run_size hT w hk, hsz, if_false]
  simp only [Sem.run_ite]
  by_cases h0 : n * k = 0
  · rw [if_pos h0]
    have hc : c0 = #[] := if_pos h0
    rw [hc] at q1
    simp only [Sem.run_bind, Sem.run_pure, Result.andThen_ok]
    rw [parts_map, q1]
    simp only [Sem.run_bind, run_newRow, Result.andThen_ok, Sem.run_pure]
  · rw [if_neg h0]
    have hc : c0 = z0.cells := if_neg h0
    rw [hc] at q1
    simp only [Sem.run_bind, rz, Sem.run_pure, Result.andThen_ok]
    rw [parts_map, q1]
    simp only [Sem.run_bind, run_newRow, Result.andThen_ok, Sem.run_pure]

theorem al_makeSlice (hT : T.Ok P) {t el : Nat} {lk ck : IntKind} {l c : Int} {l' c' : Value} {i : TypeInfo} {z : List Value} (rl : VRel σ (.int lk l) l') (rc : VRel σ (.int ck c) c')
    (hu : T.und t = some (.slice el)) (hi : T.info el = some i) (hz : zeroRow T el c.toNat = some z) (h0 : 0 ≤ l) (h1 : l ≤ c) (h2 : c.toNat * (i.bytes + 1) < roomy) :
    AlRes P σ w (do pure (.value (← Instr.makeSlice t l' c'))) (.row z i.size) (fun b => .slice (some ⟨b, 0, none⟩) l.toNat c.toNat) := by
  cases rl; cases rc
  have hroomy : roomy = 4294967296 := rfl
  have hk : T.size el = some i.size := by unfold Tab.size; rw [hi]
  obtain ⟨z0, k', hz0, hk', hzs, hzc, rfl⟩ := zeroRow_spec hT w hz
  rw [hk] at hk'; injection hk' with hk'; subst hk'
  obtain ⟨rz, _⟩ := run_zero hT w hz0
  let n := c.toNat * i.size
  let c0 : Array Value := if n = 0 then #[] else z0.cells
  let row : Array Value := (Array.range n).map (fun j => c0[j % c0.size]!)
  have hrow : row.toList = rept z0.cells.toList c.toNat := zeros_eq z0.cells i.size c.toNat hzs c0 rfl
  have hrs : row.size = n := by simp [row]
  have hrel : VRels σ (rept z0.cells.toList c.toNat) row.toList := by
    rw [hrow]
    have x := (VRel.const (σ := σ) hzc).cells.rept c.toNat
    have hv : vcells z0 = z0.cells.toList := by cases z0 <;> rfl
    rw [hv] at x; exact x
  have hlen := hrel.length
  simp only [Array.length_toList] at hlen
  rw [hroomy] at h2
  have hc1 : c.toNat < 4294967296 := Nat.lt_of_le_of_lt (Nat.le_mul_of_pos_right _ (Nat.succ_pos i.bytes)) h2
  have hbytes : c.toNat * i.bytes < 4294967296 := Nat.lt_of_le_of_lt (Nat.mul_le_mul_left _ (Nat.le_succ i.bytes)) h2
  have wl : IntKind.i64.wrap l = l := wrap_small h0 (by omega)
  have wc : IntKind.i64.wrap c = c := wrap_small (by omega) (by omega)
  have hbi : (i.bytes : Int) * c < 4294967296 := by
    have : (c.toNat : Int) = c := by omega
    rw [← this, Int.mul_comm, ← Int.natCast_mul]
    omega
  have hbl : (i.bytes : Int) * l ≤ (i.bytes : Int) * c := Int.mul_le_mul_of_nonneg_left h1 (by omega)
  refine ⟨.cells row el (0, 0), .slice (some ⟨w.heap.size, 0, none⟩) l.toNat c.toNat, ?_, ⟨row, el, (0, 0), rfl, .inl (Nat.le_refl _), by omega, by rw [List.take_of_length_le (by simp; omega)]; exact hrel⟩,
    fun τ b h1 h2 => .slice h1 (by omega) (Nat.le_refl _) (.inl ⟨rfl, .inr (by rw [h2]; simp only [ANew.obj, newKl]; rw [hrs]; simp [n])⟩)⟩
  unfold Instr.makeSlice
  simp only [Sem.run_bind, run_und w (hT.und _ _ hu), Result.andThen_ok, asInt, asIntOf, Sem.run_pure, run_info w (hT.info _ _ hi), wl, wc]
  have e48 : (2 : Int) ^ 48 = 281474976710656 := by decide
  have hcond : ((decide (c < 0) || decide ((i.bytes : Int) * c > 2 ^ 48)) || decide (l < 0) || decide (l > c)) = false := by
    rw [e48]
    simp only [Bool.or_eq_false_iff, decide_eq_false_iff_not]
    omega
  rw [hcond]
  simp only [Bool.false_eq_true, if_false, Sem.run_bind, run_askRoom, Result.andThen_ok, run_size hT w hk, Sem.run_ite]
  by_cases hn : c.toNat * i.size = 0
  · rw [if_pos hn]
    have hc : c0 = #[] := if_pos hn
    simp only [Sem.run_bind, Sem.run_pure, Result.andThen_ok, run_newRow]
    simp only [row, hc, n]
  · rw [if_neg hn]
    have hc : c0 = z0.cells := if_neg hn
    simp only [Sem.run_bind, rz, Sem.run_pure, Result.andThen_ok, run_newRow]
    simp only [row, hc, n]


/-- an operation that makes a thing -/
theorem al_run (hG : T.Good P) {h h' : AHeap} {e : Env} {o : Oper} {r : Next'} (hi : isAl o.op = true) (hr : opA T h e o.op = some (r, h')) :
    ∃ (a : ANew) (v : Nat → Value), r = .value (v h.next) ∧ h' = (h.new (a.obj h.next)).2 ∧
      ∀ (σ : Emb) (w : World) (ac : Act), FRel σ e ac.tmps → GRel σ T.nglob → AlRes P σ w (execOp ac.eval o) a v := by
  obtain ⟨dst, op, type, pos, after, guard⟩ := o
  simp only at hi hr
  cases op <;> first | (cases (show false = true from hi); done) | skip
  case alloc t =>
    simp only [opA] at hr
    split at hr
    · rename_i z hz
      cases hr
      exact ⟨.var (vcells z), fun b => .pointer (some ⟨b, 0, none⟩), rfl, rfl, fun σ w ac F G => al_alloc hG.ok hz⟩
    · cases hr
  case box t x =>
    simp only [opA] at hr
    split at hr
    · rename_i v hv
      cases hr
      refine ⟨.var (vcells v), fun b => .pointer (some ⟨b, 0, none⟩), rfl, rfl, fun σ w ac F G => ?_⟩
      exact al_box t (ev_rel F G hv)
    · cases hr
  case buildSlice t n ps =>
    simp only [opA] at hr
    split at hr
    · rename_i l el hl hu
      split at hr
      · rename_i k z hk hz
        cases hb : Nat.ble (n * k) 16777216 with
        | false => rw [hb] at hr; cases hr
        | true =>
          rw [hb] at hr
          simp only [cond_true] at hr
          split at hr
          · rename_i cs hcs
            cases hr
            refine ⟨.row cs k, fun b => .slice (some ⟨b, 0, none⟩) n n, rfl, rfl, fun σ w ac F G => ?_⟩
            exact al_buildSlice hG.ok F G hl hu hk hz (Nat.ble_eq.mp hb) hcs
          · cases hr
      · cases hr
    · cases hr
  case makeSlice t x y =>
    simp only [opA] at hr
    split at hr
    · rename_i _ l _ c el hl hc hu
      split at hr
      · rename_i i z hi2 hz
        cases hb : (decide (0 ≤ l) && decide (l ≤ c) && Nat.blt (c.toNat * (i.bytes + 1)) roomy) with
        | false => rw [hb] at hr; cases hr
        | true =>
          rw [hb] at hr
          simp only [cond_true] at hr
          cases hr
          simp only [Bool.and_eq_true, decide_eq_true_eq] at hb
          refine ⟨.row z i.size, fun b => .slice (some ⟨b, 0, none⟩) l.toNat c.toNat, rfl, rfl, fun σ w ac F G => ?_⟩
          exact al_makeSlice hG.ok (ev_rel F G hl) (ev_rel F G hc) hu hi2 hz hb.1.1 hb.1.2 (Nat.blt_eq.mp hb.2)
      · cases hr
    · cases hr

/-! heaps to which things have been added -/
inductive Made : AHeap → AHeap → Prop
  | refl (h : AHeap) : Made h h
  | new {h g : AHeap} (m : Made h g) (a : ANew) : Made h (g.new (a.obj g.next)).2

theorem Made.trans {a b c : AHeap} (x : Made a b) (y : Made b c) : Made a c := by
  induction y with
  | refl => exact x
  | new m a ih => exact .new ih a

theorem grows_new (h : AHeap) (o : AObj) : Grows h (h.new o).2 :=
  ⟨Nat.le_succ _, fun b hb => by rw [objs_new, if_neg (by omega)], rfl⟩
theorem Made.grows {a b : AHeap} (x : Made a b) : Grows a b := by
  induction x with
  | refl => exact .refl _
  | new m a ih => exact ih.trans (grows_new _ _)
theorem Made.under {a b : AHeap} (x : Made a b) (hb : Below a) : Below b := by
  induction x with
  | refl => exact hb
  | new m a ih =>
    rename_i g
    intro b o h
    rw [objs_new] at h
    show b < g.next + 1
    by_cases e : b = g.next
    · exact Nat.lt_succ_of_le (Nat.le_of_eq e)
    · rw [if_neg e] at h; exact Nat.lt_succ_of_lt (ih b o h)

theorem HRel.belowH {h : AHeap} (H : HRel σ h w) : Below h := fun b o e => by
  rcases Nat.lt_or_ge b h.next with h' | h'
  · exact h'
  · rw [H.fresh b h'] at e; cases e

theorem obj_row {a : ANew} {b : Nat} {vs : List Value} {k f v : Nat} (h : a.obj b = .row vs k f v) : a = .row vs k ∧ f = b ∧ v = 0 := by
  cases a with
  | var l => cases h
  | row l k => cases h; exact ⟨rfl, rfl, rfl⟩

theorem HRel.made1 {h : AHeap} (H : HRel σ h w) (a : ANew) : HRel σ (h.new (a.obj h.next)).2 w := by
  have objOld : ∀ b, b < h.next → (h.new (a.obj h.next)).2.objs.get b = h.objs.get b := fun b hb => by rw [objs_new, if_neg (by omega)]
  have famS : ∀ f, (h.new (a.obj h.next)).2.fam f = h.fam f := fun f => rfl
  have nx : (h.new (a.obj h.next)).2.next = h.next + 1 := rfl
  have split : ∀ b o, (h.new (a.obj h.next)).2.objs.get b = some o → (b = h.next ∧ a.obj h.next = o) ∨ (b ≠ h.next ∧ h.objs.get b = some o) := by
    intro b o e
    rw [objs_new] at e
    by_cases hb : b = h.next
    · rw [if_pos hb] at e; injection e with e; exact .inl ⟨hb, e⟩
    · rw [if_neg hb] at e; exact .inr ⟨hb, e⟩
  have lt : ∀ b x, σ b = some x → b < h.next := fun b x e => (H.old b x.1 x.2 e).1
  constructor
  · intro b β s e; have := H.old b β s e; exact ⟨by omega, this.2⟩
  · intro b β s vs e ho; rw [objOld b (lt _ _ e)] at ho; exact H.var b β s vs e ho
  · intro b β s vs k f v e ho hv; rw [objOld b (lt _ _ e)] at ho; exact H.row b β s vs k f v e ho hv
  · intro b x vs k f v e ho; rw [objOld b (lt _ _ e)] at ho; exact H.rowk b x vs k f v e ho
  · intro b x vs e ho; rw [objOld b (lt _ _ e)] at ho; exact H.vark b x vs e ho
  · intro b β s es e ho; rw [objOld b (lt _ _ e)] at ho; exact H.map b β s es e ho
  · intro b b' β s s' e e'; rw [objOld b (lt _ _ e), objOld b' (lt _ _ e')]; exact H.sep b b' β s s' e e'
  · intro b hb; rw [nx] at hb; rw [objs_new, if_neg (by omega)]; exact H.fresh b (by omega)
  · intro b vs k f v ho
    rcases split _ _ ho with ⟨rfl, h1⟩ | ⟨_, h1⟩
    · obtain ⟨_, rfl, rfl⟩ := obj_row h1; exact ⟨Nat.lt_succ_self _, Nat.zero_le _⟩
    · have := H.rowver b vs k f v h1; exact ⟨by omega, this.2⟩
  · intro b vs k f v ho hf
    rcases split _ _ ho with ⟨rfl, h1⟩ | ⟨_, h1⟩
    · obtain ⟨_, rfl, rfl⟩ := obj_row h1; rfl
    · exact H.rowone b vs k f v h1 hf
  · intro f x e; have := H.famnext f x e; omega
  · intro f β st vst kt vt b s vs k v e1 ho1 e2 ho2 hv
    rw [famS] at e1 ho1 hv
    rw [objOld _ (lt _ _ e1)] at ho1
    rw [objOld _ (lt _ _ e2)] at ho2
    exact H.tip f β st vst kt vt b s vs k v e1 ho1 e2 ho2 hv

theorem HRel.made {h g : AHeap} (H : HRel σ h w) (m : Made h g) : HRel σ g w := by
  induction m with
  | refl => exact H
  | new m a ih => exact ih.made1 a

/-- a thing that the abstract heap already has is made -/
theorem HRel.realize {h : AHeap} (H : HRel σ h w) {b : Nat} {a : ANew} {x : Obj} (hid : h.objs.get b = some (a.obj b)) (hf : ∀ vs k, a = .row vs k → h.fams.get b = none)
    (hs : σ b = none) (hlt : b < h.next) (N : NewC σ a x) :
    Emb.le σ (σ.ext b (w.heap.size, 0) (newKl (a.obj b) x)) ∧ HRel (σ.ext b (w.heap.size, 0) (newKl (a.obj b) x)) h (w.alloc x) := by
  have le : Emb.le σ (σ.ext b (w.heap.size, 0) (newKl (a.obj b) x)) := by
    intro i z e
    by_cases hb : i = b
    · subst hb; rw [hs] at e; cases e
    · rw [Emb.ext_ne _ _ _ hb, Emb.kl_ne _ _ _ hb]; exact ⟨e, rfl⟩
  refine ⟨le, ?_⟩
  have old' : ∀ i β s, σ.ext b (w.heap.size, 0) (newKl (a.obj b) x) i = some (β, s) → (i = b ∧ β = w.heap.size ∧ s = 0) ∨ (i ≠ b ∧ β < w.heap.size ∧ σ i = some (β, s)) := by
    intro i β s e
    by_cases hb : i = b
    · subst hb; rw [Emb.ext_same] at e; injection e with e; injection e with e1 e2; exact .inl ⟨rfl, e1.symm, e2.symm⟩
    · rw [Emb.ext_ne _ _ _ hb] at e; exact .inr ⟨hb, (H.old i β s e).2, e⟩
  have heapOld : ∀ β, β < w.heap.size → (w.alloc x).heap[β]? = w.heap[β]? := fun β hβ => by
    simp only [World.alloc, Array.getElem?_push]; rw [if_neg (by omega)]
  have heapNew : (w.alloc x).heap[w.heap.size]? = some x := by show (w.heap.push x)[w.heap.size]? = some x; simp
  constructor
  · intro i β s e
    rcases old' i β s e with ⟨rfl, rfl, rfl⟩ | ⟨_, h2, e'⟩
    · exact ⟨hlt, by simp⟩
    · exact ⟨(H.old i β s e').1, by simp; omega⟩
  · intro i β s vs e ho
    rcases old' i β s e with ⟨rfl, rfl, rfl⟩ | ⟨h1, h2, e'⟩
    · rw [hid] at ho; injection ho with ho
      cases a with
      | row l k => cases ho
      | var l =>
        cases ho
        obtain ⟨c, el, fr, rfl, hfr, hc⟩ := N
        exact ⟨rfl, c, ⟨el, fr, heapNew, hfr⟩, hc.mono le⟩
    · obtain ⟨hs, c, hc, hv⟩ := H.var i β s vs e' ho
      exact ⟨hs, c, hc.congr (heapOld β h2), hv.mono le⟩
  · intro i β s vs k f v e ho hv
    rcases old' i β s e with ⟨rfl, rfl, rfl⟩ | ⟨h1, h2, e'⟩
    · rw [hid] at ho; injection ho with ho
      obtain ⟨rfl, rfl, rfl⟩ := obj_row ho
      obtain ⟨c, el, fr, rfl, hfr, hl, hc⟩ := N
      exact ⟨c, ⟨el, fr, heapNew, hfr⟩, by omega, by rw [Emb.kl_same]; rfl, by simpa using hc.mono le⟩
    · obtain ⟨c, hc, hl, hk, hv'⟩ := H.row i β s vs k f v e' ho hv
      exact ⟨c, hc.congr (heapOld β h2), hl, by rw [Emb.kl_ne _ _ _ h1]; exact hk, hv'.mono le⟩
  · intro i y vs k f v e ho
    rcases old' i y.1 y.2 e with ⟨rfl, _, _⟩ | ⟨h1, h2, e'⟩
    · rw [hid] at ho; injection ho with ho
      obtain ⟨rfl, rfl, rfl⟩ := obj_row ho
      obtain ⟨c, el, fr, rfl, _⟩ := N
      rw [Emb.kl_same]; rfl
    · rw [Emb.kl_ne _ _ _ h1]; exact H.rowk i _ vs k f v e' ho
  · intro i y vs e ho
    rcases old' i y.1 y.2 e with ⟨rfl, _, _⟩ | ⟨h1, h2, e'⟩
    · rw [hid] at ho; injection ho with ho
      rw [Emb.kl_same, ho]; rfl
    · rw [Emb.kl_ne _ _ _ h1]; exact H.vark i _ vs e' ho
  · intro i β s es e ho
    rcases old' i β s e with ⟨rfl, rfl, rfl⟩ | ⟨h1, h2, e'⟩
    · rw [hid] at ho; injection ho with ho
      cases a <;> cases ho
    · obtain ⟨hs, ents, clock, hc, he, hm⟩ := H.map i β s es e' ho
      exact ⟨hs, ents, clock, by rw [heapOld β h2]; exact hc, he.mono le, hm⟩
  · intro i i' β s s' e e'
    rcases old' i β s e with ⟨rfl, rfl, rfl⟩ | ⟨h1, h2, e1⟩ <;> rcases old' i' _ s' e' with ⟨rfl, h3, rfl⟩ | ⟨h1', h2', e1'⟩
    · exact .inl rfl
    · omega
    · omega
    · exact H.sep i i' β s s' e1 e1'
  · exact H.fresh
  · exact H.rowver
  · exact H.rowone
  · exact H.famnext
  · intro f β st vst kt vt i s vs k v e1 ho1 e2 ho2 hv
    rcases old' _ β st e1 with ⟨h1, rfl, rfl⟩ | ⟨h1, h2, e1'⟩
    · rcases old' i _ s e2 with ⟨rfl, h4, rfl⟩ | ⟨h3, h4, e2'⟩
      · rw [h1, ho2] at ho1; cases ho1; omega
      · omega
    · rcases old' i β s e2 with ⟨rfl, rfl, rfl⟩ | ⟨h3, h4, e2'⟩
      · omega
      · exact H.tip f β st vst kt vt i s vs k v e1' ho1 e2' ho2 hv
end
end Go.AM
