import Derived.Test.YtjiphiegpfleeaaGreatDoorRAmDraw4
namespace Go.AM

section
variable {P : Program} {T : Tab}

theorem pure_made {h h' : AHeap} {e : Env} {o : Oper} {v : Value} (hG : T.Good P) (hn : isEf o.op = false) (hr : opA T h e o.op = some (.value v, h'))
    (hc : (isAl o.op || Nat.beq h'.next h.next) = true) : Made h h' ∧ (isAl o.op = false → h' = h) := by
  cases ha : isAl o.op with
  | true =>
    obtain ⟨a, u, _, rfl, _⟩ := al_run (P := P) hG ha hr
    exact ⟨.new (.refl h) a, fun h => by cases h⟩
  | false =>
    have hrd : isRd o.op = true := by
      unfold isEf at hn
      rw [ha] at hn
      simpa using hn
    rw [ha] at hc
    obtain ⟨rfl, _⟩ := rd_same hrd hr (Nat.eq_of_beq_eq_true hc)
    exact ⟨.refl _, fun _ => rfl⟩

/-- the slots behind a stretch of the canonical run -/
def after1 (all : List Oper) (e : Trie Value) (x : Nat × TE) : Trie Value := match all[x.1]? with | some o => setDst e o.dst x.2.v | none => e
def after (all : List Oper) : Trie Value → List (Nat × TE) → Trie Value
  | e, [] => e
  | e, x :: tr => after all (after1 all e x) tr

theorem after_append (all : List Oper) : ∀ (l m : List (Nat × TE)) (e : Trie Value), after all e (l ++ m) = after all (after all e l) m
  | [], _, _ => rfl
  | x :: l, m, e => by simp only [List.cons_append, after]; exact after_append all l m _

structure PureF (T : Tab) (all : List Oper) (o : Oper) (te : TE) : Prop where
  want : wantedA all te.e.get o = some te.run
  off : te.run = false → te.v = undef ∧ te.hA = te.hB
  on : te.run = true → opA T te.hB te.e.get o.op = some (.value te.v, te.hA)
  same : isAl o.op = false → te.hA = te.hB

theorem tracePure_facts (hG : T.Good P) {all : List Oper} : ∀ (ops : List (Oper × Nat)) (e e' : Trie Value) (h h' : AHeap) (tr : List (Nat × TE)),
    (∀ x ∈ ops, all[x.2]? = some x.1 ∧ isEf x.1.op = false) → tracePure T all ops e h = some (tr, e', h') →
    tr.map (·.1) = ops.map (·.2) ∧ e' = after all e tr ∧ Made h h' ∧
      ∀ pre x post, tr = pre ++ x :: post → x.2.e = after all e pre ∧ ∃ o, all[x.1]? = some o ∧ isEf o.op = false ∧ (o, x.1) ∈ ops ∧ PureF T all o x.2 ∧ Made h x.2.hB ∧ Made x.2.hA h'
  | [], e, e', h, h', tr, _, hr => by
    simp only [tracePure, Option.some.injEq, Prod.mk.injEq] at hr
    obtain ⟨rfl, rfl, rfl⟩ := hr
    refine ⟨rfl, rfl, .refl _, fun pre x post hp => ?_⟩
    cases pre <;> cases hp
  | (o, i) :: rest, e, e', h, h', tr, hall, hr => by
    have ho := hall (o, i) (List.mem_cons_self ..)
    have hrest := fun x hx => hall x (List.mem_cons_of_mem _ hx)
    simp only at ho
    simp only [tracePure] at hr
    split at hr
    · rename_i hw
      split at hr
      · rename_i v h1 hv
        cases hc : (isAl o.op || Nat.beq h1.next h.next) with
        | false => rw [hc] at hr; cases hr
        | true =>
          rw [hc] at hr
          simp only [cond_true] at hr
          obtain ⟨m1, m2⟩ := pure_made hG ho.2 hv hc
          split at hr
          · rename_i tr2 r hrec
            cases hr
            obtain ⟨g1, g2, g3, g4⟩ := tracePure_facts hG rest _ _ _ _ _ hrest hrec
            refine ⟨by simp [g1], by simp only [after, after1, ho.1]; exact g2, m1.trans g3, fun pre x post hp => ?_⟩
            cases pre with
            | nil =>
              cases hp
              exact ⟨rfl, o, ho.1, ho.2, List.mem_cons_self .., ⟨hw, (fun h => by cases h), fun _ => hv, m2⟩, .refl _, g3⟩
            | cons y pre =>
              cases hp
              obtain ⟨f1, o2, f2, f3, f4, f5, f6, f7⟩ := g4 pre x post rfl
              exact ⟨by simp only [after, after1, ho.1]; exact f1, o2, f2, f3, List.mem_cons_of_mem _ f4, f5, m1.trans f6, f7⟩
          · cases hr
      · cases hr
    · rename_i hw
      split at hr
      · rename_i tr2 r hrec
        cases hr
        obtain ⟨g1, g2, g3, g4⟩ := tracePure_facts hG rest _ _ _ _ _ hrest hrec
        refine ⟨by simp [g1], by simp only [after, after1, ho.1]; exact g2, g3, fun pre x post hp => ?_⟩
        cases pre with
        | nil =>
          cases hp
          exact ⟨rfl, o, ho.1, ho.2, List.mem_cons_self .., ⟨hw, fun _ => ⟨rfl, rfl⟩, (fun h => by cases h), fun _ => rfl⟩, .refl _, g3⟩
        | cons y pre =>
          cases hp
          obtain ⟨f1, o2, f2, f3, f4, f5, f6, f7⟩ := g4 pre x post rfl
          exact ⟨by simp only [after, after1, ho.1]; exact f1, o2, f2, f3, List.mem_cons_of_mem _ f4, f5, f6, f7⟩
      · cases hr
    · cases hr

/-- what the canonical run knows of an operation that acts -/
inductive ActF (T : Tab) (all : List Oper) (n : Nat) (o : Oper) (te : TE) : Prop
  | off (w : wantedA all te.e.get o = some false) (v : te.v = undef) (h : te.hA = te.hB)
  | value (w : wantedA all te.e.get o = some true) (v : opA T te.hB te.e.get o.op = some (.value te.v, te.hA))
  | skip (w : wantedA all te.e.get o = some true) (v : opA T te.hB te.e.get o.op = some (.skip, te.hA)) (u : te.v = undef)
  | enter (w : wantedA all te.e.get o = some true) {g : Nat} {args : List Value} {h1 : AHeap} (v : opA T te.hB te.e.get o.op = some (.enter g args, h1)) {m : Nat} (hm : m < n)
      (c : runCall T m g args h1 = some (te.v, te.hA))

theorem ActF.mono {all : List Oper} {n n' : Nat} {o : Oper} {te : TE} (hn : n ≤ n') (h : ActF T all n o te) : ActF T all n' o te := by
  cases h with
  | off w v h => exact .off w v h
  | value w v => exact .value w v
  | skip w v u => exact .skip w v u
  | enter w v hm c => exact .enter w v (Nat.lt_of_lt_of_le hm hn) c

theorem actHeaps_pure {all : List Oper} : ∀ (l m : List (Nat × TE)), (∀ x ∈ l, ∃ o, all[x.1]? = some o ∧ isEf o.op = false) → actHeaps all (l ++ m) = actHeaps all m
  | [], _, _ => rfl
  | x :: l, m, h => by
    obtain ⟨o, h1, h2⟩ := h x (List.mem_cons_self ..)
    simp only [List.cons_append, actHeaps, nth_eq, h1, h2, cond_false]
    exact actHeaps_pure l m fun y hy => h y (List.mem_cons_of_mem _ hy)

structure PartsF (T : Tab) (all : List Oper) (n : Nat) (f : Nat → List (Oper × Nat)) (es : List (Oper × Nat)) (k : Nat) (e e' : Trie Value) (h h' : AHeap) (tr : List (Nat × TE)) (A B : Nat → AHeap) : Prop where
  first : A k = h
  last : B (k + es.length) = h'
  made : ∀ q, k ≤ q → q ≤ k + es.length → Made (A q) (B q)
  env : e' = after all e tr
  names : tr.map (·.1) = order f es k
  acts : ∀ j, j < es.length → (actHeaps all tr)[j]? = some (A (k + 1 + j))
  each : ∀ pre x post, tr = pre ++ x :: post → x.2.e = after all e pre ∧ ∃ o, all[x.1]? = some o ∧
    ((isEf o.op = false ∧ ∃ q, k ≤ q ∧ q ≤ k + es.length ∧ (o, x.1) ∈ f q ∧ PureF T all o x.2 ∧ Made (A q) x.2.hB ∧ Made x.2.hA (B q)) ∨
     (isEf o.op = true ∧ ∃ q, es[q]? = some (o, x.1) ∧ x.2.hB = B (k + q) ∧ x.2.hA = A (k + q + 1) ∧ ActF T all n o x.2))

theorem append_split {α : Type} {l m pre post : List α} {x : α} (h : l ++ m = pre ++ x :: post) : (∃ post', l = pre ++ x :: post') ∨ (∃ pre', pre = l ++ pre' ∧ m = pre' ++ x :: post) := by
  induction l generalizing pre with
  | nil => exact .inr ⟨pre, rfl, h⟩
  | cons a l ih =>
    cases pre with
    | nil => cases h; exact .inl ⟨l, rfl⟩
    | cons b pre =>
      simp only [List.cons_append, List.cons.injEq] at h
      obtain ⟨rfl, h⟩ := h
      rcases ih h with ⟨p, rfl⟩ | ⟨p, rfl, h2⟩
      · exact .inl ⟨p, rfl⟩
      · exact .inr ⟨p, rfl, h2⟩

/-- one part, an operation that acts, and the rest -/
theorem PartsF.step (hG : T.Good P) {all : List Oper} {n : Nat} {f : Nat → List (Oper × Nat)} {es : List (Oper × Nat)} {k : Nat} {e e1 e' : Trie Value} {h h1 h' : AHeap} {tr tr2 : List (Nat × TE)} {A B : Nat → AHeap}
    (hf : ∀ q, ∀ x ∈ f q, all[x.2]? = some x.1 ∧ isEf x.1.op = false) {o : Oper} {i : Nat} (ho : all[i]? = some o) (he : isEf o.op = true)
    (ht : tracePure T all (f k) e h = some (tr, e1, h1)) {te : TE} (h2 : te.e = e1) (h3 : te.hB = h1) (ha : ActF T all n o te)
    (R : PartsF T all n f es (k + 1) (setDst e1 o.dst te.v) e' te.hA h' tr2 A B) :
    ∃ A B, PartsF T all n f ((o, i) :: es) k e e' h h' (tr ++ (i, te) :: tr2) A B := by
  obtain ⟨g1, g2, g3, g4⟩ := tracePure_facts hG (f k) _ _ _ _ _ (hf k) ht
  have hpure : ∀ x ∈ tr, ∃ o, all[x.1]? = some o ∧ isEf o.op = false := fun x hx => by
    obtain ⟨pre, post, hs⟩ := List.append_of_mem hx
    obtain ⟨_, o, q1, q2, _⟩ := g4 pre x post hs
    exact ⟨o, q1, q2⟩
  let A' : Nat → AHeap := fun q => if q = k then h else A q
  let B' : Nat → AHeap := fun q => if q = k then h1 else B q
  have a0 : A' k = h := if_pos rfl
  have b0 : B' k = h1 := if_pos rfl
  have aN : ∀ q, k < q → A' q = A q := fun q hq => if_neg (by omega)
  have bN : ∀ q, k < q → B' q = B q := fun q hq => if_neg (by omega)
  refine ⟨A', B', a0, ?_, ?_, ?_, ?_, ?_, ?_⟩
  · rw [bN _ (by simp), ← R.last]; congr 1; simp; omega
  · intro q q1 q2
    simp only [List.length_cons] at q2
    by_cases hq : q = k
    · rw [hq, a0, b0]; exact g3
    · rw [aN q (by omega), bN q (by omega)]; exact R.made q (by omega) (by omega)
  · rw [R.env, after_append, ← g2]; simp only [after, after1, ho]
  · simp only [List.map_append, List.map_cons, order, R.names, g1]
  · intro j hj
    rw [actHeaps_pure tr _ hpure]
    simp only [actHeaps, nth_eq, ho, he, cond_true]
    cases j with
    | zero =>
      simp only [List.getElem?_cons_zero, Nat.add_zero]
      rw [aN _ (by omega), R.first]
    | succ j =>
      simp only [List.getElem?_cons_succ]
      simp only [List.length_cons] at hj
      rw [R.acts j (by omega), aN _ (by omega)]
      congr 2; omega
  · intro pre x post hp
    rcases append_split hp with ⟨post', h5⟩ | ⟨pre', rfl, h5⟩
    · obtain ⟨f1, o2, f2, f3, f4, f5, f6, f7⟩ := g4 pre x post' h5
      refine ⟨f1, o2, f2, .inl ⟨f3, k, Nat.le_refl _, by omega, f4, f5, ?_, ?_⟩⟩
      · rw [a0]; exact f6
      · rw [b0]; exact f7
    · cases pre' with
      | nil =>
        cases h5
        refine ⟨by rw [List.append_nil, ← g2]; exact h2, o, ho, .inr ⟨he, 0, rfl, ?_, ?_, ha⟩⟩
        · rw [Nat.add_zero, b0]; exact h3
        · rw [aN _ (by omega), ← R.first]
      | cons y pre' =>
        cases h5
        obtain ⟨f1, o2, f2, f3⟩ := R.each pre' x post rfl
        refine ⟨by rw [f1, after_append, ← g2]; simp only [after, after1, ho], o2, f2, ?_⟩
        rcases f3 with ⟨t1, q, t2, t3, t4, t5, t6, t7⟩ | ⟨t1, q, t2, t3, t4, t5⟩
        · refine .inl ⟨t1, q, by omega, by simp only [List.length_cons]; omega, t4, t5, ?_, ?_⟩
          · rw [aN q (by omega)]; exact t6
          · rw [bN q (by omega)]; exact t7
        · refine .inr ⟨t1, q + 1, by simpa using t2, ?_, ?_, t5⟩
          · rw [bN _ (by omega), t3]; congr 1; omega
          · rw [aN _ (by omega), t4]; congr 1; omega

theorem PartsF.mono {all : List Oper} {n n' : Nat} (hn : n ≤ n') {f : Nat → List (Oper × Nat)} {es : List (Oper × Nat)} {k : Nat} {e e' : Trie Value} {h h' : AHeap} {tr : List (Nat × TE)} {A B : Nat → AHeap}
    (R : PartsF T all n f es k e e' h h' tr A B) : PartsF T all n' f es k e e' h h' tr A B := by
  refine ⟨R.first, R.last, R.made, R.env, R.names, R.acts, fun pre x post hp => ?_⟩
  obtain ⟨f1, o2, f2, f3⟩ := R.each pre x post hp
  refine ⟨f1, o2, f2, ?_⟩
  rcases f3 with f3 | ⟨t1, q, t2, t3, t4, t5⟩
  · exact .inl f3
  · exact .inr ⟨t1, q, t2, t3, t4, t5.mono hn⟩

theorem runParts_facts (hG : T.Good P) {all : List Oper} {f : Nat → List (Oper × Nat)} (hf : ∀ q, ∀ x ∈ f q, all[x.2]? = some x.1 ∧ isEf x.1.op = false) :
    ∀ (n : Nat) (es : List (Oper × Nat)) (k : Nat) (e e' : Trie Value) (h h' : AHeap) (tr : List (Nat × TE)), (∀ x ∈ es, all[x.2]? = some x.1 ∧ isEf x.1.op = true) →
    runParts T n all f es k e h = some (tr, e', h') → ∃ A B, PartsF T all n f es k e e' h h' tr A B
  | 0, es, k, e, e', h, h', tr, _, hr => by cases hr
  | n + 1, es, k, e, e', h, h', tr, hes, hr => by
    unfold runParts at hr
    split at hr
    · cases hr
    · rename_i tr1 e1 h1 ht
      split at hr
      · cases hr
        obtain ⟨g1, g2, g3, g4⟩ := tracePure_facts hG (f k) _ _ _ _ _ (hf k) ht
        have hpure : ∀ x ∈ tr, ∃ o, all[x.1]? = some o ∧ isEf o.op = false := fun x hx => by
          obtain ⟨pre, post, hs⟩ := List.append_of_mem hx
          obtain ⟨_, o, q1, q2, _⟩ := g4 pre x post hs
          exact ⟨o, q1, q2⟩
        refine ⟨fun _ => h, fun _ => h', rfl, rfl, fun _ _ _ => g3, g2, by simpa [order] using g1, fun j hj => by simp at hj, fun pre x post hp => ?_⟩
        obtain ⟨f1, o2, f2, f3, f4, f5, f6, f7⟩ := g4 pre x post hp
        exact ⟨f1, o2, f2, .inl ⟨f3, k, Nat.le_refl _, by omega, f4, f5, f6, f7⟩⟩
      · rename_i o i es
        have ho := hes (o, i) (List.mem_cons_self ..)
        have hrest := fun x hx => hes x (List.mem_cons_of_mem _ hx)
        simp only at ho
        split at hr
        · rename_i hw
          split at hr
          · rename_i v h2 hv
            split at hr
            · rename_i tr2 r hrec
              cases hr
              obtain ⟨A, B, R⟩ := runParts_facts hG hf n es (k + 1) _ _ _ _ _ hrest hrec
              exact PartsF.step hG hf ho.1 ho.2 ht rfl rfl (.value hw hv) (R.mono (Nat.le_succ n))
            · cases hr
          · rename_i h2 hv
            split at hr
            · rename_i tr2 r hrec
              cases hr
              obtain ⟨A, B, R⟩ := runParts_facts hG hf n es (k + 1) _ _ _ _ _ hrest hrec
              exact PartsF.step hG hf ho.1 ho.2 ht rfl rfl (.skip hw hv rfl) (R.mono (Nat.le_succ n))
            · cases hr
          · rename_i g args h2 hv
            split at hr
            · rename_i v h3 hc
              split at hr
              · rename_i tr2 r hrec
                cases hr
                obtain ⟨A, B, R⟩ := runParts_facts hG hf n es (k + 1) _ _ _ _ _ hrest hrec
                exact PartsF.step hG hf ho.1 ho.2 ht rfl rfl (.enter hw hv (Nat.lt_succ_self n) hc) (R.mono (Nat.le_succ n))
              · cases hr
            · cases hr
          · cases hr
        · rename_i hw
          split at hr
          · rename_i tr2 r hrec
            cases hr
            obtain ⟨A, B, R⟩ := runParts_facts hG hf n es (k + 1) _ _ _ _ _ hrest hrec
            exact PartsF.step hG hf ho.1 ho.2 ht rfl rfl (.off hw rfl rfl) (R.mono (Nat.le_succ n))
          · cases hr
        · cases hr
end
end Go.AM
