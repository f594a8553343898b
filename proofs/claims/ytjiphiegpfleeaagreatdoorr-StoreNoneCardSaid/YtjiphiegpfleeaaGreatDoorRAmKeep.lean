import Derived.Test.YtjiphiegpfleeaaGreatDoorRAmDraw8
namespace Go.AM
/-! slots that no operation writes; the front of a row of codes -/
def noDstO (t : Nat) (o : Oper) : Bool := match o.dst with | some d => !Nat.beq d t | none => true
def noDst (t : Nat) : Code → Bool
  | .skip | .exit _ | .ret => true
  | .region _ ops _ => ops.toList.all (noDstO t)
  | .seq a b | .cond _ a b => noDst t a && noDst t b
  | .block _ b | .loop b => noDst t b
  | _ => false

section
variable {T : Tab} {t : Nat}

theorem get_setDst {e : Trie Value} {o : Oper} {v : Value} (h : noDstO t o = true) : (setDst e o.dst v).get t = e.get t := by
  unfold noDstO at h
  unfold setDst
  cases hd : o.dst with
  | some d =>
    rw [hd] at h
    simp only at h ⊢
    rw [Trie.get_set, if_neg]
    intro hh; subst hh
    rw [Nat.beq_refl] at h; cases h
  | none => rfl

theorem keep_tracePure {all : List Oper} : ∀ {l : List (Oper × Nat)} {e : Trie Value} {h : AHeap} {r : List (Nat × TE) × Trie Value × AHeap}, (∀ x ∈ l, noDstO t x.1 = true) →
    tracePure T all l e h = some r → r.2.1.get t = e.get t
  | [], e, h, r, _, hr => by
    simp only [tracePure, Option.some.injEq] at hr
    rw [← hr]
  | (o, i) :: rest, e, h, r, hl, hr => by
    have ho : noDstO t o = true := hl (o, i) (List.mem_cons.2 (.inl rfl))
    have hrest : ∀ x ∈ rest, noDstO t x.1 = true := fun x hx => hl x (List.mem_cons.2 (.inr hx))
    have fin : ∀ (v : Value) (h2 : AHeap) (te : TE), (match tracePure T all rest (setDst e o.dst v) h2 with
          | some (tr, r) => some ((i, te) :: tr, r)
          | none => none) = some r → r.2.1.get t = e.get t := by
      intro v h2 te hh
      split at hh
      · rename_i tr r2 hq
        injection hh with hh; subst hh
        have := keep_tracePure hrest hq
        simp only at this ⊢
        rw [this, get_setDst ho]
      · cases hh
    unfold tracePure at hr
    split at hr
    · split at hr
      · rename_i v h2 _
        cases hc : (isAl o.op || Nat.beq h2.next h.next) with
        | false => rw [hc] at hr; cases hr
        | true => rw [hc] at hr; exact fin _ _ _ hr
      · cases hr
    · exact fin _ _ _ hr
    · cases hr

theorem keep_all (n : Nat) :
    (∀ c e h r, noDst t c = true → runCode T n c e h = some r → r.2.1.get t = e.get t) ∧
    (∀ all ops e h r, (∀ o ∈ ops, noDstO t o = true) → runOps T n all ops e h = some r → r.1.get t = e.get t) ∧
    (∀ all f es k e h r, (∀ q, ∀ x ∈ f q, noDstO t x.1 = true) → (∀ x ∈ es, noDstO t x.1 = true) → runParts T n all f es k e h = some r → r.2.1.get t = e.get t) := by
  induction n with
  | zero =>
    refine ⟨fun c e h r _ hr => ?_, fun all ops e h r _ hr => ?_, fun all f es k e h r _ _ hr => ?_⟩
    · unfold runCode at hr; cases hr
    · unfold runOps at hr; cases hr
    · unfold runParts at hr; cases hr
  | succ n ih =>
    obtain ⟨ih1, ih2, ih3⟩ := ih
    refine ⟨fun c e h r hc hr => ?_, fun all ops e h r hc hr => ?_, fun all f es k e h r hf hes hr => ?_⟩
    · unfold runCode at hr
      split at hr
      · injection hr with hr; rw [← hr]
      · rename_i a b
        simp only [noDst, Bool.and_eq_true] at hc
        split at hr
        · rename_i e1 h1 ha
          rw [ih1 _ _ _ _ hc.2 hr, ih1 _ _ _ _ hc.1 ha]
        · exact ih1 _ _ _ _ hc.1 hr
      · rename_i x a b
        simp only [noDst, Bool.and_eq_true] at hc
        split at hr
        · rename_i q _
          cases q with
          | true => exact ih1 _ _ _ _ hc.1 hr
          | false => exact ih1 _ _ _ _ hc.2 hr
        · cases hr
      · rename_i id b
        simp only [noDst] at hc
        split at hr
        · rename_i i e1 h1 hb
          cases hq : Nat.beq i id with
          | true => rw [hq] at hr; injection hr with hr; rw [← hr]; have := ih1 _ _ _ _ hc hb; exact this
          | false => rw [hq] at hr; injection hr with hr; rw [← hr]; have := ih1 _ _ _ _ hc hb; exact this
        · exact ih1 _ _ _ _ hc hr
      · rename_i b
        have hc' : noDst t b = true := by simpa only [noDst] using hc
        split at hr
        · rename_i e1 h1 hb
          rw [ih1 _ _ _ _ hc hr, ih1 _ _ _ _ hc' hb]
        · exact ih1 _ _ _ _ hc' hr
      · injection hr with hr; rw [← hr]
      · injection hr with hr; rw [← hr]
      · rename_i id ops
        simp only [noDst, List.all_eq_true] at hc
        split at hr
        · rename_i e1 h1 ho
          injection hr with hr; rw [← hr]
          exact ih2 _ _ _ _ _ hc ho
        · cases hr
      · rename_i id ops
        simp only [noDst, List.all_eq_true] at hc
        simp only at hr
        cases hd : drawStatic ops.toList with
        | false => rw [hd] at hr; cases hr
        | true =>
          rw [hd] at hr
          simp only [cond_true] at hr
          have hidx : ∀ x ∈ idx ops.toList 0, noDstO t x.1 = true := by
            intro x hx
            have : ops.toList[x.2]? = some x.1 := idx0_mem.mp hx
            exact hc _ (List.mem_of_getElem? this)
          split at hr
          · rename_i tr e1 h1 ho
            have := ih3 _ _ _ _ _ _ _ (fun q x hx => by
              unfold drawPart at hx
              exact hidx x (List.mem_filter.1 hx).1) (fun x hx => hidx x (List.mem_filter.1 hx).1) ho
            cases hq : (nexts h.next tr && heapsOk T ops.toList (masks ops.toList []) (idx ops.toList 0) tr (actHeaps ops.toList tr) 0) with
            | false => rw [hq] at hr; cases hr
            | true => rw [hq] at hr; injection hr with hr; rw [← hr]; exact this
          · cases hr
      · cases hr
    · unfold runOps at hr
      split at hr
      · injection hr with hr; rw [← hr]
      · rename_i o rest
        have ho : noDstO t o = true := hc o (List.mem_cons.2 (.inl rfl))
        have hrest : ∀ x ∈ rest, noDstO t x = true := fun x hx => hc x (List.mem_cons.2 (.inr hx))
        split at hr
        · split at hr
          · rw [ih2 _ _ _ _ _ hrest hr, get_setDst ho]
          · rw [ih2 _ _ _ _ _ hrest hr, get_setDst ho]
          · split at hr
            · rw [ih2 _ _ _ _ _ hrest hr, get_setDst ho]
            · cases hr
          · cases hr
        · rw [ih2 _ _ _ _ _ hrest hr, get_setDst ho]
        · cases hr
    · unfold runParts at hr
      split at hr
      · cases hr
      · rename_i tr e1 h1 ht
        have k1 := keep_tracePure (hf k) ht
        simp only at k1
        split at hr
        · injection hr with hr; rw [← hr]; exact k1
        · rename_i o i es
          have ho : noDstO t o = true := hes (o, i) (List.mem_cons.2 (.inl rfl))
          have hrest : ∀ x ∈ es, noDstO t x.1 = true := fun x hx => hes x (List.mem_cons.2 (.inr hx))
          have fin : ∀ (v : Value) (h2 : AHeap) (g : List (Nat × TE) → List (Nat × TE)), (match runParts T n all f es (k + 1) (setDst e1 o.dst v) h2 with
                | some (tr', r) => some (g tr', r)
                | none => none) = some r → r.2.1.get t = e.get t := by
            intro v h2 g hh
            split at hh
            · rename_i tr' r2 hq
              injection hh with hh; subst hh
              have := ih3 _ _ _ _ _ _ _ hf hrest hq
              simp only at this ⊢
              rw [this, get_setDst ho, k1]
            · cases hh
          split at hr
          · split at hr
            · exact fin _ _ (fun tr' => tr ++ (i, _) :: tr') hr
            · exact fin _ _ (fun tr' => tr ++ (i, _) :: tr') hr
            · split at hr
              · exact fin _ _ (fun tr' => tr ++ (i, _) :: tr') hr
              · cases hr
            · cases hr
          · exact fin _ _ (fun tr' => tr ++ (i, _) :: tr') hr
          · cases hr

/-- k codes of a row, one behind the other -/
def spineA (T : Tab) : Nat → Nat → Code → Trie Value → AHeap → Option (Code × Nat × Trie Value × AHeap)
  | 0, n, c, e, h => some (c, n, e, h)
  | k + 1, n + 1, .seq a b, e, h => match runCode T n a e h with
    | some (.normal, e, h) => spineA T k n b e h
    | _ => none
  | _, _, _, _, _ => none
def dropSeq : Nat → Code → Code
  | 0, c => c
  | k + 1, .seq _ b => dropSeq k b
  | _, c => c
def noDstFront (t : Nat) : Nat → Code → Bool
  | 0, _ => true
  | k + 1, .seq a b => noDst t a && noDstFront t k b
  | _, _ => false

theorem spineA_spec : ∀ {k n : Nat} {c : Code} {e : Trie Value} {h : AHeap} {c' : Code} {n' : Nat} {e' : Trie Value} {h' : AHeap}, spineA T k n c e h = some (c', n', e', h') →
    runCode T n c e h = runCode T n' c' e' h' ∧ c' = dropSeq k c ∧ n' + k = n ∧ (∀ t, noDstFront t k c = true → e'.get t = e.get t)
  | 0, n, c, e, h, c', n', e', h', hs => by
    simp only [spineA, Option.some.injEq, Prod.mk.injEq] at hs
    obtain ⟨rfl, rfl, rfl, rfl⟩ := hs
    exact ⟨rfl, rfl, rfl, fun _ _ => rfl⟩
  | k + 1, n, c, e, h, c', n', e', h', hs => by
    unfold spineA at hs
    split at hs
    · rename_i heq; cases heq
    · rename_i k' n2 a b heq
      injection heq with heq; subst heq
      split at hs
      · rename_i e1 h1 ha
        obtain ⟨r1, r2, r3, r4⟩ := spineA_spec hs
        refine ⟨?_, r2, by omega, fun t ht => ?_⟩
        · rw [← r1]
          conv => lhs; unfold runCode
          simp only [ha]
        · simp only [noDstFront, Bool.and_eq_true] at ht
          have := (keep_all (T := T) (t := t) n2).1 _ _ _ _ ht.1 ha
          simp only at this
          rw [r4 t ht.2, this]
      · cases hs
    · cases hs
end
end Go.AM
namespace Go.AM
theorem list5 {α : Type} {l : List α} (h : l.length = 5) : ∃ a b c d e, l = [a, b, c, d, e] := by
  rcases l with _ | ⟨a, _ | ⟨b, _ | ⟨c, _ | ⟨d, _ | ⟨e, _ | ⟨f, l⟩⟩⟩⟩⟩⟩ <;> simp at h ⊢
theorem list3 {α : Type} {l : List α} (h : l.length = 3) : ∃ a b c, l = [a, b, c] := by
  rcases l with _ | ⟨a, _ | ⟨b, _ | ⟨c, _ | ⟨d, l⟩⟩⟩⟩ <;> simp at h ⊢
end Go.AM
