import Derived.Test.YtjiphiegpfleeaaGreatDoorRAmDraw2
namespace Go.AM

section
variable {P : Program} {T : Tab}

theorem builtin_len {h : AHeap} {ts : List Nat} {args : List Value} : builtinA T h .len ts args = match ts, args with
    | t :: _, [x] => (match lenA T h t x with | some v => some (.value v, h) | none => none)
    | _, _ => none := by
  cases ts <;> (cases args with | nil => rfl | cons a l => cases l <;> rfl)
theorem builtin_max {h : AHeap} {ts : List Nat} {args : List Value} : builtinA T h .max ts args = match args with
    | a :: l => (match foldA max2A a l with | some v => some (.value v, h) | none => none)
    | _ => none := by
  cases args <;> rfl
theorem builtin_min {h : AHeap} {ts : List Nat} {args : List Value} : builtinA T h .min ts args = match args with
    | a :: l => (match foldA min2A a l with | some v => some (.value v, h) | none => none)
    | _ => none := by
  cases args <;> rfl

theorem rd_same {h h' : AHeap} {e : Env} {o : Op} {x : Next'} (hi : isRd o = true) (hr : opA T h e o = some (x, h')) (hn : h'.next = h.next) : h' = h ∧ ∃ v, x = .value v := by
  cases o <;> first | (cases (show false = true from hi); done) | skip
  case convert s d x =>
    simp only [opA] at hr
    split at hr
    · split at hr
      · rename_i v h1 hc
        cases hr
        refine ⟨?_, v, rfl⟩
        unfold convA at hc
        (repeat' split at hc) <;> first | (cases hc; done) | (cases hc; rfl) | skip
        all_goals
          rename_i hq
          cases hq
          cases hc
          exact absurd hn (Nat.succ_ne_self _)
      · cases hr
    · cases hr
  case call c =>
    obtain ⟨callee, args, ats⟩ := c
    simp only [opA, callOp] at hr
    split at hr
    · cases hr
    · cases callee with
      | builtin b =>
        cases b <;> first | (cases (show false = true from hi); done) | skip
        all_goals
          simp only [builtin_len, builtin_max, builtin_min] at hr
          (repeat' split at hr) <;> first | (cases hr; done) | (cases hr; exact ⟨rfl, _, rfl⟩)
      | value x => cases hi
      | invoke x m => cases hi
  case makeFunc fn a b =>
    cases fn <;> first | (cases (show none = some (x, h') from hr); done) | skip
    simp only [opA] at hr
    (repeat' split at hr) <;> first | (cases hr; done) | (cases hr; exact ⟨rfl, _, rfl⟩)
  all_goals
    simp only [opA, cond_eq_ite] at hr
    (repeat' split at hr) <;> first | (cases hr; done) | (cases hr; exact ⟨rfl, _, rfl⟩)

theorem Grows.lenC {a b : AHeap} (x : Grows a b) (hb : Below a) {t : Nat} {v u : Value} (h : lenA T a t v = some u) : lenA T b t v = some u := by
  unfold AM.lenA at h ⊢
  split at h
  · exact h
  · exact h
  · exact h
  · rename_i hu
    cases hm : mapOf a _ with
    | none => rw [hm] at h; cases h
    | some es => rw [x.mapA hb hm]; rw [hm] at h; exact h
  · cases h

theorem Grows.sliceM {a b : AHeap} (x : Grows a b) (hb : Below a) {t : Nat} {v u : Value} {lo hi mx : Option Value} (h : sliceA T a t v lo hi mx = some u) : sliceA T b t v lo hi mx = some u := by
  have hf : ∀ i k, fitsK a i k = true → fitsK b i k = true := fun i k => x.fitsC hb
  have hv : ∀ i, isVar a i = true → isVar b i = true := fun i => x.isVarC hb
  unfold AM.sliceA at h ⊢
  simp only [cond_eq_ite] at h ⊢
  (repeat' split at h) <;> first | (cases h; done) | (simp_all; done)

theorem Grows.convC {a b : AHeap} (x : Grows a b) (hb : Below a) {s d : Nat} {v u : Value} (h : convA T a s d v = some (u, a)) : convA T b s d v = some (u, b) := by
  unfold convA at h ⊢
  (repeat' split at h) <;> first | (cases h; done) | (simp_all; done) | skip
  · rename_i hq
    cases hq
    injection h with h; injection h with h1 h2
    have := congrArg AHeap.next h2
    exact absurd this (Nat.succ_ne_self _)
  · rename_i hl _ r hb2
    rw [x.sliceC hb hl]
    cases h
    simp only [hb2]

theorem opA_mono {h g : AHeap} {e : Env} {o : Op} {v : Value} (hi : isRd o = true) (hr : opA T h e o = some (.value v, h)) (x : Grows h g) (hb : Below h) : opA T g e o = some (.value v, g) := by
  cases o <;> first | (cases (show false = true from hi); done) | skip
  case convert s d y =>
    simp only [opA] at hr ⊢
    split at hr
    · rename_i w hw
      try simp only [hw]
      split at hr
      · rename_i u h1 hc
        cases hr
        rw [x.convC hb hc]
      · cases hr
    · cases hr
  case load t y =>
    simp only [opA] at hr ⊢
    split at hr
    · rename_i a ha
      try simp only [ha]
      split at hr
      · rename_i u hc
        cases hr
        rw [x.loadC hb hc]
      · cases hr
    · cases hr
  case lookup t m k ok =>
    simp only [opA] at hr ⊢
    split at hr
    · rename_i m' k' hm hk
      try simp only [hm, hk]
      split at hr
      · rename_i u hc
        cases hr
        rw [x.lookupC hb hc]
      · cases hr
    · cases hr
  case slice t y lo hi' mx =>
    simp only [opA] at hr ⊢
    split at hr
    · rename_i h1 h2 h3 h4
      try simp only [h1, h2, h3, h4]
      split at hr
      · rename_i u hc
        cases hr
        rw [x.sliceM hb hc]
      · cases hr
    · cases hr
  case call c =>
    obtain ⟨callee, args, ats⟩ := c
    simp only [opA, callOp] at hr ⊢
    split at hr
    · cases hr
    · rename_i as has
      try simp only [has]
      cases callee with
      | builtin b =>
        cases b <;> first | (cases (show false = true from hi); done) | skip
        case len =>
          simp only [builtin_len] at hr ⊢
          split at hr
          · split at hr
            · rename_i u hc
              cases hr
              rw [x.lenC hb hc]
            · cases hr
          · cases hr
        all_goals
          simp only [builtin_max, builtin_min] at hr ⊢
          (repeat' split at hr) <;> first | (cases hr; done) | (simp_all; done)
      | value x => cases hi
      | invoke x m => cases hi
  case makeFunc fn a b =>
    cases fn <;> first | (cases (show (none : R Next') = some (Next'.value v, h) from hr); done) | skip
    simp only [opA] at hr ⊢
    (repeat' split at hr) <;> first | (cases hr; done) | (simp_all; done)
  all_goals
    simp only [opA, cond_eq_ite] at hr ⊢
    (repeat' split at hr) <;> first | (cases hr; done) | (simp_all; done)

end
end Go.AM
