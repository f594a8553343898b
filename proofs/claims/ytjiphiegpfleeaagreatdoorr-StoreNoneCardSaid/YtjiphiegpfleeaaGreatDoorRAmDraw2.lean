import Derived.Test.YtjiphiegpfleeaaGreatDoorRAmDraw1
namespace Go.AM

section
variable {P : Program} {T : Tab}

/-! an operation's answer hangs on the slots at which it looks -/
theorem ev_congr {e g : Env} {x : Operand} (h : ∀ t, x = .tmp t → e t = g t) : ev T e x = ev T g x := by
  cases x with
  | tmp t => exact h t rfl
  | const v => rfl
  | global v => rfl
  | func v => rfl

theorem evs_congr {e g : Env} : ∀ {l : List Operand}, (∀ t, Operand.tmp t ∈ l → e t = g t) → evs T e l = evs T g l
  | [], _ => rfl
  | x :: l, h => by
    simp only [evs]
    rw [ev_congr (T := T) fun t ht => h t (by rw [ht]; exact List.mem_cons_self ..), evs_congr fun t ht => h t (List.mem_cons_of_mem _ ht)]

theorem parts_congr {e g : Env} : ∀ {l : List (Nat × Operand)}, (∀ t, Operand.tmp t ∈ l.map (·.2) → e t = g t) → parts T e l = parts T g l
  | [], _ => rfl
  | (i, x) :: l, h => by
    simp only [parts]
    rw [ev_congr (T := T) fun t ht => h t (by rw [ht]; exact List.mem_cons_self ..), parts_congr fun t ht => h t (List.mem_cons_of_mem _ ht)]

theorem evo_congr {e g : Env} {x : Option Operand} (h : ∀ t, x = some (.tmp t) → e t = g t) : evo T e x = evo T g x := by
  cases x with
  | none => rfl
  | some x => simp only [evo]; rw [ev_congr (T := T) fun t ht => h t (by rw [ht])]

theorem opA_congr {h : AHeap} {e g : Env} {o : Op} (hh : ∀ t, Operand.tmp t ∈ o.operands.toList → e t = g t) : opA T h e o = opA T h g o := by
  cases o <;> simp only [Op.operands, opA] at hh ⊢ <;> first
    | rfl
    | (rw [ev_congr (T := T) fun t ht => hh t (by rw [ht]; simp)]; done)
    | (rw [ev_congr (T := T) (fun t ht => hh t (by rw [ht]; simp)), ev_congr (T := T) (x := _) (fun t ht => hh t (by rw [ht]; simp))]; done)
    | skip
  case pick c a b =>
    rw [ev_congr (T := T) (x := c) (fun t ht => hh t (by rw [ht]; simp)), ev_congr (T := T) (x := a) (fun t ht => hh t (by rw [ht]; simp)), ev_congr (T := T) (x := b) (fun t ht => hh t (by rw [ht]; simp))]
  case build t ps =>
    rw [parts_congr (T := T) fun t ht => hh t ht]
  case buildSlice t n ps =>
    rw [parts_congr (T := T) fun t ht => hh t ht]
  case insert t c a b =>
    rw [ev_congr (T := T) (x := c) (fun t ht => hh t (by rw [ht]; simp)), ev_congr (T := T) (x := a) (fun t ht => hh t (by rw [ht]; simp)), ev_congr (T := T) (x := b) (fun t ht => hh t (by rw [ht]; simp))]
  case mapUpdate t c a b =>
    rw [ev_congr (T := T) (x := c) (fun t ht => hh t (by rw [ht]; simp)), ev_congr (T := T) (x := a) (fun t ht => hh t (by rw [ht]; simp)), ev_congr (T := T) (x := b) (fun t ht => hh t (by rw [ht]; simp))]
  case makeFunc fn a b =>
    cases fn <;> first | rfl | skip
    simp only
    rw [evs_congr (T := T) (l := a.toList) fun t ht => hh t (by simp only [Array.toList_append, List.mem_append]; exact .inl ht),
      evs_congr (T := T) (l := b.toList) fun t ht => hh t (by simp only [Array.toList_append, List.mem_append]; exact .inr ht)]
  case makeMap t r => cases r <;> rfl
  case slice t x lo hi mx =>
    rw [ev_congr (T := T) (x := x) (fun t ht => hh t (by rw [ht]; simp)), evo_congr (T := T) (x := lo) (fun t ht => hh t (by rw [ht]; simp)),
      evo_congr (T := T) (x := hi) (fun t ht => hh t (by rw [ht]; simp)), evo_congr (T := T) (x := mx) (fun t ht => hh t (by rw [ht]; simp))]
  case call c =>
    obtain ⟨callee, args, ats⟩ := c
    unfold callOp
    simp only [Call.operands] at hh
    rw [evs_congr (T := T) (l := args.toList) fun t ht => hh t (by simp only [Array.toList_append, List.mem_append]; exact .inr ht)]
    cases callee with
    | builtin b => rfl
    | value x => simp only; rw [ev_congr (T := T) (x := x) fun t ht => hh t (by rw [ht]; simp)]
    | invoke x m => simp only; rw [ev_congr (T := T) (x := x) fun t ht => hh t (by rw [ht]; simp)]

/-! heaps that have more objects -/
structure Grows (h h' : AHeap) : Prop where
  next : h.next ≤ h'.next
  objs : ∀ b, b < h.next → h'.objs.get b = h.objs.get b
  fams : h'.fams = h.fams

theorem Grows.refl (h : AHeap) : Grows h h := ⟨Nat.le_refl _, fun _ _ => rfl, rfl⟩
theorem Grows.trans {a b c : AHeap} (x : Grows a b) (y : Grows b c) : Grows a c :=
  ⟨Nat.le_trans x.next y.next, fun i hi => (y.objs i (Nat.lt_of_lt_of_le hi x.next)).trans (x.objs i hi), y.fams.trans x.fams⟩
theorem Grows.fam {a b : AHeap} (x : Grows a b) (f : Nat) : b.fam f = a.fam f := by unfold AHeap.fam; rw [x.fams]

/-- every object lies below the next number -/
def Below (h : AHeap) : Prop := ∀ b o, h.objs.get b = some o → b < h.next
theorem Grows.get {a b : AHeap} (x : Grows a b) (hb : Below a) {i : Nat} {o : AObj} (h : a.objs.get i = some o) : b.objs.get i = some o := by
  rw [x.objs i (hb i o h)]; exact h

theorem Grows.cells {a b : AHeap} (x : Grows a b) (hb : Below a) {i : Nat} {vs : List Value} (h : a.cells i = some vs) : b.cells i = some vs := by
  unfold AHeap.cells at h ⊢
  cases ho : a.objs.get i with
  | none => rw [ho] at h; cases h
  | some o =>
    rw [x.get hb ho]
    rw [ho] at h
    cases o with
    | var vs => exact h
    | row vs k f v => simp only at h ⊢; rw [x.fam f]; exact h
    | map es => cases h

theorem Grows.mapA {a b : AHeap} (x : Grows a b) (hb : Below a) {v : Value} {es : List (Value × Value)} (h : mapOf a v = some es) : mapOf b v = some es := by
  unfold AM.mapOf at h ⊢
  split at h
  · exact h
  · rename_i r
    cases ho : a.objs.get r with
    | none => rw [ho] at h; cases h
    | some o => rw [x.get hb ho]; rw [ho] at h; exact h
  · cases h

theorem Grows.sliceC {a b : AHeap} (x : Grows a b) (hb : Below a) {i off n : Nat} {l : List Value} (h : sliceCells a i off n = some l) : sliceCells b i off n = some l := by
  unfold AM.sliceCells at h ⊢
  cases hc : a.cells i with
  | none => rw [hc] at h; cases h
  | some vs => rw [x.cells hb hc]; rw [hc] at h; exact h

theorem Grows.loadC {a b : AHeap} (x : Grows a b) (hb : Below a) {t i off : Nat} {v : Value} (h : loadA T a t i off = some v) : loadA T b t i off = some v := by
  unfold AM.loadA at h ⊢
  cases hc : a.cells i with
  | none => rw [hc] at h; cases h
  | some vs => rw [x.cells hb hc]; rw [hc] at h; exact h

theorem Grows.lookupC {a b : AHeap} (x : Grows a b) (hb : Below a) {t : Nat} {m k v : Value} {ok : Bool} (h : lookupA T a t m k ok = some v) : lookupA T b t m k ok = some v := by
  unfold AM.lookupA at h ⊢
  cases hm : mapOf a m with
  | none => rw [hm] at h; cases hu : T.und t <;> rw [hu] at h <;> first | cases h | (rename_i d; cases d <;> cases h)
  | some es => rw [x.mapA hb hm]; rw [hm] at h; exact h

theorem Grows.fitsC {a b : AHeap} (x : Grows a b) (hb : Below a) {i k : Nat} (h : fitsK a i k = true) : fitsK b i k = true := by
  unfold AM.fitsK at h ⊢
  cases ho : a.objs.get i with
  | none => rw [ho] at h; cases h
  | some o => rw [x.get hb ho]; rw [ho] at h; exact h
theorem Grows.isVarC {a b : AHeap} (x : Grows a b) (hb : Below a) {i : Nat} (h : isVar a i = true) : isVar b i = true := by
  unfold AM.isVar at h ⊢
  cases ho : a.objs.get i with
  | none => rw [ho] at h; cases h
  | some o => rw [x.get hb ho]; rw [ho] at h; exact h
end
end Go.AM
