import Derived.Test.YtjiphiegpfleeaaGreatDoorRAmDraw6
namespace Go.AM

abbrev msOf (all : List Oper) : List Nat := masks all []
abbrev lOf (all : List Oper) : List (Oper × Nat) := idx all 0
abbrev esOf (all : List Oper) : List (Oper × Nat) := (idx all 0).filter fun x => isEf x.1.op

structure Ctx (P : Program) (T : Tab) (n : Nat) (all : List Oper) (e0 e' : Trie Value) (h0 h' : AHeap) (tr : List (Nat × TE)) (A B : Nat → AHeap) : Prop where
  good : T.Good P
  st : Static all
  R : PartsF T all n (drawPart (msOf all) (lOf all)) (esOf all) 0 e0 e' h0 h' tr A B
  nx : nexts h0.next tr = true
  hk : heapsOk T all (msOf all) (lOf all) tr (actHeaps all tr) 0 = true

section
variable {P : Program} {T : Tab} {n : Nat} {all : List Oper} {e0 e' : Trie Value} {h0 h' : AHeap} {tr : List (Nat × TE)} {A B : Nat → AHeap}

theorem Ctx.ent (C : Ctx P T n all e0 e' h0 h' tr A B) {i : Nat} {o : Oper} (ho : all[i]? = some o) : ∃ te, (i, te) ∈ tr := by
  have := C.st.whole i o ho
  rw [← C.R.names, List.mem_map] at this
  obtain ⟨x, hx, rfl⟩ := this
  exact ⟨x.2, hx⟩

theorem Ctx.split (C : Ctx P T n all e0 e' h0 h' tr A B) {pre post : List (Nat × TE)} {x y : Nat × TE} (h : tr = pre ++ x :: post) (hy : y ∈ post) : bit (msOf all) x.1 y.1 = false ∧ x.1 ≠ y.1 := by
  have ho := C.st.order
  rw [← C.R.names, h, List.map_append, List.map_cons] at ho
  exact topo_split ho y.1 (List.mem_map_of_mem hy)

theorem Ctx.uniq (C : Ctx P T n all e0 e' h0 h' tr A B) {x y : Nat × TE} (hx : x ∈ tr) (hy : y ∈ tr) (hn : x.1 = y.1) : x = y := by
  obtain ⟨pre, post, hs⟩ := List.append_of_mem hx
  have hy2 := hy
  rw [hs] at hy2
  rcases List.mem_append.mp hy2 with h1 | h1
  · obtain ⟨p, q, h2⟩ := List.append_of_mem h1
    have h3 : tr = p ++ y :: (q ++ x :: post) := by rw [hs, h2]; simp
    exact absurd hn.symm (C.split h3 (y := x) (by simp)).2
  · rcases List.mem_cons.mp h1 with h1 | h1
    · exact h1.symm
    · exact absurd hn (C.split hs h1).2

theorem Ctx.env (C : Ctx P T n all e0 e' h0 h' tr A B) {x : Nat × TE} {o : Oper} (hx : x ∈ tr) (ho : all[x.1]? = some o) {t : Nat} (ht : t ∈ looks all o) :
    (∃ y ∈ tr, dstOf all y.1 = some t ∧ bit (msOf all) x.1 y.1 = true ∧ x.2.e.get t = some y.2.v) ∨
    ((∀ j, j ≠ x.1 → dstOf all j = some t → bit (msOf all) j x.1 = true) ∧ x.2.e.get t = e0.get t) := by
  obtain ⟨pre, post, hs⟩ := List.append_of_mem hx
  obtain ⟨f1, _⟩ := C.R.each pre x post hs
  rw [f1]
  rcases after_get (all := all) t pre e0 with ⟨y, h1, h2, h3⟩ | ⟨h1, h2⟩
  · left
    have hym : y ∈ tr := by rw [hs]; exact List.mem_append_left _ h1
    obtain ⟨p, q, hpq⟩ := List.append_of_mem h1
    have h4 : tr = p ++ y :: (q ++ x :: post) := by rw [hs, hpq]; simp
    have h5 := C.split h4 (y := x) (by simp)
    refine ⟨y, hym, h2, ?_, h3⟩
    have h6 := C.st.looks x.1 y.1 o t ho ht h2 (fun h => h5.2 h.symm)
    rcases Nat.lt_or_gt_of_ne h5.2 with h7 | h7
    · exact h6.1 h7
    · rw [h6.2 h7] at h5; cases h5.1
  · right
    refine ⟨fun j hj hd => ?_, h2⟩
    have h6 := C.st.looks x.1 j o t ho ht hd (fun h => hj h.symm)
    rcases Nat.lt_or_gt_of_ne hj with h7 | h7
    · have h8 := h6.1 h7
      obtain ⟨p, hp, _⟩ := dstOf_some hd
      obtain ⟨te, hte⟩ := C.ent hp
      rw [hs] at hte
      rcases List.mem_append.mp hte with h9 | h9
      · exact absurd hd (h1 _ h9)
      · rcases List.mem_cons.mp h9 with h9 | h9
        · exact absurd (congrArg Prod.fst h9) hj
        · have := (C.split hs h9).1
          rw [h8] at this; cases this
    · exact h6.2 h7

theorem Ctx.nextLe (C : Ctx P T n all e0 e' h0 h' tr A B) {x : Nat × TE} (hx : x ∈ tr) : h0.next ≤ x.2.hB.next := by
  obtain ⟨pre, post, hs⟩ := List.append_of_mem hx
  have := C.nx
  rw [hs] at this
  exact (nexts_split this).1

theorem Ctx.nextLt (C : Ctx P T n all e0 e' h0 h' tr A B) {x y : Nat × TE} (hx : x ∈ tr) (hy : y ∈ tr) (hne : x.1 ≠ y.1) (ax : x.2.hA.next = x.2.hB.next + 1) (ay : y.2.hA.next = y.2.hB.next + 1) :
    x.2.hB.next ≠ y.2.hB.next := by
  have key : ∀ {x y : Nat × TE} {pre post : List (Nat × TE)}, tr = pre ++ x :: post → y ∈ post → x.2.hA.next ≤ y.2.hB.next := by
    intro x y pre post hs hy
    have := C.nx
    rw [hs] at this
    obtain ⟨_, _, h1⟩ := nexts_split this
    obtain ⟨p, q, hpq⟩ := List.append_of_mem hy
    rw [hpq] at h1
    exact (nexts_split h1).1
  obtain ⟨pre, post, hs⟩ := List.append_of_mem hx
  have hy2 := hy
  rw [hs] at hy2
  rcases List.mem_append.mp hy2 with h1 | h1
  · obtain ⟨p, q, h2⟩ := List.append_of_mem h1
    have h3 : tr = p ++ y :: (q ++ x :: post) := by rw [hs, h2]; simp
    have := key h3 (y := x) (by simp)
    omega
  · rcases List.mem_cons.mp h1 with h1 | h1
    · exact absurd (congrArg Prod.fst h1).symm hne
    · have := key hs h1
      omega

/-- an entry of an operation that does not act -/
theorem Ctx.pure (C : Ctx P T n all e0 e' h0 h' tr A B) {x : Nat × TE} {o : Oper} (hx : x ∈ tr) (ho : all[x.1]? = some o) (he : isEf o.op = false) :
    ∃ q, q ≤ (esOf all).length ∧ rank (msOf all) (lOf all) x.1 = q ∧ PureF T all o x.2 ∧ Made (A q) x.2.hB ∧ Made x.2.hA (B q) := by
  obtain ⟨pre, post, hs⟩ := List.append_of_mem hx
  obtain ⟨_, o2, h1, h2⟩ := C.R.each pre x post hs
  rw [ho] at h1; injection h1 with h1; subst h1
  rcases h2 with ⟨_, q, _, q2, q3, q4, q5, q6⟩ | ⟨h2, _⟩
  · refine ⟨q, by omega, ?_, q4, q5, q6⟩
    unfold drawPart at q3
    rw [List.mem_filter] at q3
    simp only [Bool.and_eq_true] at q3
    exact Nat.eq_of_beq_eq_true q3.2.2
  · rw [he] at h2; cases h2

theorem Ctx.act (C : Ctx P T n all e0 e' h0 h' tr A B) {x : Nat × TE} {o : Oper} (hx : x ∈ tr) (ho : all[x.1]? = some o) (he : isEf o.op = true) :
    ∃ q : Nat, (esOf all)[q]? = some (o, x.1) ∧ x.2.hB = B q ∧ x.2.hA = A (q + 1) ∧ ActF T all n o x.2 := by
  obtain ⟨pre, post, hs⟩ := List.append_of_mem hx
  obtain ⟨_, o2, h1, h2⟩ := C.R.each pre x post hs
  rw [ho] at h1; injection h1 with h1; subst h1
  rcases h2 with ⟨h2, _⟩ | ⟨_, q, q1, q2, q3, q4⟩
  · rw [he] at h2; cases h2
  · rw [Nat.zero_add] at q2 q3
    exact ⟨q, q1, q2, q3, q4⟩

/-- what has been done of a region, in whichever order -/
structure Inv (P : Program) (T : Tab) (n : Nat) (all : List Oper) (e0 : Trie Value) (h0 : AHeap) (tr : List (Nat × TE)) (A B : Nat → AHeap) (σ0 : Emb) (a0 : Act) (w0 : World)
    (D : Nat → Prop) (m : Nat) (σ : Emb) (a : Act) (w : World) : Prop where
  closed : Closed all D
  le : m ≤ (esOf all).length
  acts : ∀ (q : Nat) x, (esOf all)[q]? = some x → (D x.2 ↔ q < m)
  step : Step σ0 h0 w0 σ (B m) w
  glob : GRel σ T.nglob
  done : ∀ x ∈ tr, ∀ d, D x.1 → dstOf all x.1 = some d → ∃ v', a.tmps[d]? = some v' ∧ VRel σ x.2.v v'
  rest : ∀ t u, (∀ i, D i → dstOf all i ≠ some t) → e0.get t = some u → ∃ v', a.tmps[t]? = some v' ∧ VRel σ u v'
  unmade : ∀ x ∈ tr, ∀ o, all[x.1]? = some o → isAl o.op = true → x.2.run = true → rank (msOf all) (lOf all) x.1 ≤ m → x.2.hB.next < (B m).next ∧ (¬ D x.1 → σ x.2.hB.next = none)
  base : ∃ σA wA, HRel σA (A m) wA
  size : a.tmps.size = a0.tmps.size
  defers : a.defers = a0.defers

variable {σ0 σ : Emb} {a0 a : Act} {w0 w : World} {D : Nat → Prop} {m : Nat}

/-- the slots at which an operation that is ready looks -/
theorem Inv.look (C : Ctx P T n all e0 e' h0 h' tr A B) (I : Inv P T n all e0 h0 tr A B σ0 a0 w0 D m σ a w) {x : Nat × TE} {o : Oper} (hx : x ∈ tr) (ho : all[x.1]? = some o) (hD : ¬ D x.1)
    (hr : ∀ e ∈ o.after.toList, Region.binds .any e = true → D e.on) :
    FRel σ (fun t => if t ∈ looks all o then x.2.e.get t else none) a.tmps := by
  intro t u hu
  simp only at hu
  by_cases ht : t ∈ looks all o
  · rw [if_pos ht] at hu
    rcases C.env hx ho ht with ⟨y, h1, h2, h3, h4⟩ | ⟨h1, h2⟩
    · rw [h4] at hu; injection hu with hu; subst hu
      exact I.done y h1 t (bit_closed C.st.topo I.closed x.1 o ho hr y.1 h3) h2
    · rw [h2] at hu
      refine I.rest t u (fun j hj hd => ?_) hu
      have hne : j ≠ x.1 := fun h => hD (h ▸ hj)
      obtain ⟨p, hp, _⟩ := dstOf_some hd
      exact hD (bit_done C.st.topo I.closed hp hj (h1 j hne hd))
  · rw [if_neg ht] at hu; cases hu

theorem look_op {o : Oper} {e : Env} {h : AHeap} : opA T h (fun t => if t ∈ looks all o then e t else none) o.op = opA T h e o.op := by
  refine opA_congr fun t ht => ?_
  rw [if_pos]
  unfold looks opTmps
  exact List.mem_append_left _ (List.mem_filterMap.mpr ⟨.tmp t, ht, rfl⟩)
theorem look_want {o : Oper} {e : Env} : wantedA all (fun t => if t ∈ looks all o then e t else none) o = wantedA all e o :=
  wanted_congr fun t ht => if_pos ht

/-- an operation's value is put -/
theorem Inv.put (C : Ctx P T n all e0 e' h0 h' tr A B) (I : Inv P T n all e0 h0 tr A B σ0 a0 w0 D m σ a w) {x : Nat × TE} {o : Oper} (hx : x ∈ tr) (ho : all[x.1]? = some o) (hD : ¬ D x.1)
    (hr : ∀ e ∈ o.after.toList, Region.binds .any e = true → D e.on) (hdst : dstOk a0.tmps.size o = true)
    {σ' : Emb} {w' : World} {m' : Nat} {v' : Value} (hle : m' ≤ (esOf all).length) (hacts : ∀ (q : Nat) y, (esOf all)[q]? = some y → ((D y.2 ∨ y.2 = x.1) ↔ q < m'))
    (le : Emb.le σ σ') (S : Step σ0 h0 w0 σ' (B m') w') (rv : VRel σ' x.2.v v')
    (hun : ∀ y ∈ tr, ∀ p, all[y.1]? = some p → isAl p.op = true → y.2.run = true → rank (msOf all) (lOf all) y.1 ≤ m' → y.2.hB.next < (B m').next ∧ (¬ (D y.1 ∨ y.1 = x.1) → σ' y.2.hB.next = none))
    (base : ∃ σA wA, HRel σA (A m') wA) :
    Inv P T n all e0 h0 tr A B σ0 a0 w0 (fun j => D j ∨ j = x.1) m' σ' (a.put o.dst v') w' := by
  have hd : dstOf all x.1 = o.dst := by unfold dstOf; rw [ho]
  have hsz : (a.put o.dst v').tmps.size = a.tmps.size := by unfold Act.put; cases o.dst <;> simp
  have hget : ∀ t, o.dst ≠ some t → (a.put o.dst v').tmps[t]? = a.tmps[t]? := by
    intro t ht
    unfold Act.put
    cases hod : o.dst with
    | none => rfl
    | some d =>
      have : d ≠ t := fun h => ht (by rw [hod, h])
      simp only
      rw [Array.getElem?_setIfInBounds, if_neg this]
  have hself : ∀ t, o.dst = some t → (a.put o.dst v').tmps[t]? = some v' := by
    intro t ht
    unfold dstOk at hdst
    rw [ht] at hdst
    have hlt : t < a.tmps.size := by rw [I.size]; exact Nat.blt_eq.mp hdst
    unfold Act.put
    rw [ht]
    simp [hlt]
  refine ⟨?_, hle, hacts, S, I.glob.mono le, ?_, ?_, hun, base, hsz.trans I.size, ?_⟩
  · intro i p hp hi e he hb
    rcases hi with hi | rfl
    · exact .inl (I.closed i p hp hi e he hb)
    · rw [ho] at hp; injection hp with hp; subst hp
      exact .inl (hr e he hb)
  · intro y hy d hDy hdy
    by_cases hyx : y.1 = x.1
    · have := C.uniq hy hx hyx; subst this
      exact ⟨v', hself d (by rw [← hd]; exact hdy), rv⟩
    · rcases hDy with hDy | hDy
      · obtain ⟨u, h1, h2⟩ := I.done y hy d hDy hdy
        refine ⟨u, ?_, h2.mono le⟩
        rw [hget d]
        · exact h1
        · intro h
          exact C.st.dsts y.1 x.1 d d hdy (by rw [hd]; exact h) hyx rfl
      · exact absurd hDy hyx
  · intro t u hn hu
    obtain ⟨v, h1, h2⟩ := I.rest t u (fun i hi => hn i (.inl hi)) hu
    refine ⟨v, ?_, h2.mono le⟩
    rw [hget t]
    · exact h1
    · intro h; exact hn x.1 (.inr rfl) (by rw [hd]; exact h)
  · show (a.put o.dst v').defers = a0.defers
    rw [← I.defers]; unfold Act.put; cases o.dst <;> rfl
end
end Go.AM
