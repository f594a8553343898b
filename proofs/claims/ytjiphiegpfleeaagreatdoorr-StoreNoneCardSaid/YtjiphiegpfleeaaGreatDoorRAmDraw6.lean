import Derived.Test.YtjiphiegpfleeaaGreatDoorRAmDraw5
namespace Go.AM

section
variable {P : Program} {T : Tab}

def dstOf (all : List Oper) (i : Nat) : Option Nat := match all[i]? with | some o => o.dst | none => none

theorem after_get {all : List Oper} (t : Nat) : ∀ (l : List (Nat × TE)) (e : Trie Value),
    (∃ x ∈ l, dstOf all x.1 = some t ∧ (after all e l).get t = some x.2.v) ∨ ((∀ x ∈ l, dstOf all x.1 ≠ some t) ∧ (after all e l).get t = e.get t)
  | [], e => .inr ⟨(fun x hx => by cases hx), rfl⟩
  | x :: l, e => by
    simp only [after]
    rcases after_get (all := all) t l (after1 all e x) with ⟨y, h1, h2, h3⟩ | ⟨h1, h2⟩
    · exact .inl ⟨y, List.mem_cons_of_mem _ h1, h2, h3⟩
    · rw [h2]
      unfold after1
      by_cases hd : dstOf all x.1 = some t
      · left
        refine ⟨x, List.mem_cons_self .., hd, ?_⟩
        unfold dstOf at hd
        cases ho : all[x.1]? with
        | none => rw [ho] at hd; cases hd
        | some o =>
          rw [ho] at hd
          simp only at hd ⊢
          unfold setDst
          rw [hd]
          simp only [Trie.get_set, if_true]
      · right
        refine ⟨fun y hy => ?_, ?_⟩
        · rcases List.mem_cons.mp hy with rfl | hy
          · exact hd
          · exact h1 y hy
        · unfold dstOf at hd
          cases ho : all[x.1]? with
          | none => rfl
          | some o =>
            rw [ho] at hd
            simp only at hd ⊢
            unfold setDst
            cases hdst : o.dst with
            | none => rfl
            | some d =>
              simp only [Trie.get_set]
              rw [if_neg (fun h => hd (by rw [hdst, h]))]

/-! what the static test says -/
structure Static (all : List Oper) : Prop where
  topo : Topo all
  dsts : ∀ i j a b, dstOf all i = some a → dstOf all j = some b → i ≠ j → a ≠ b
  looks : ∀ (i j : Nat) (o : Oper) t, all[i]? = some o → t ∈ looks all o → dstOf all j = some t → i ≠ j → (j < i → bit (masks all []) i j = true) ∧ (i < j → bit (masks all []) j i = true)
  acts : ∀ (i j : Nat) (o p : Oper), all[i]? = some o → all[j]? = some p → isEf o.op = true → isEf p.op = true → j < i → bit (masks all []) i j = true
  order : AM.topo (masks all []) (order (drawPart (masks all []) (idx all 0)) ((idx all 0).filter fun x => isEf x.1.op) 0) = true
  whole : ∀ (i : Nat) (o : Oper), all[i]? = some o → i ∈ AM.order (drawPart (masks all []) (idx all 0)) ((idx all 0).filter fun x => isEf x.1.op) 0

theorem dstOf_some {all : List Oper} {i a : Nat} (h : dstOf all i = some a) : ∃ o, all[i]? = some o ∧ o.dst = some a := by
  unfold dstOf at h
  cases ho : all[i]? with
  | none => rw [ho] at h; cases h
  | some o => rw [ho] at h; exact ⟨o, rfl, h⟩

theorem static_of {all : List Oper} (h : drawStatic all = true) : Static all := by
  unfold drawStatic at h
  simp only [Bool.and_eq_true] at h
  obtain ⟨⟨⟨⟨⟨h1, h2⟩, h3⟩, h4⟩, h5⟩, h6⟩ := h
  simp only [List.all_eq_true] at h1 h2 h3 h4 h6
  refine ⟨?_, ?_, ?_, ?_, h5, ?_⟩
  · intro i o ho e he hb
    have := h1 (o, i) (idx0_mem.mpr ho) e he
    rw [hb] at this
    simpa using this
  · intro i j a b hi hj hij
    obtain ⟨o, ho, hoa⟩ := dstOf_some hi
    obtain ⟨p, hp, hpb⟩ := dstOf_some hj
    have := h2 (o, i) (idx0_mem.mpr ho) (p, j) (idx0_mem.mpr hp)
    simp only [hoa, hpb, Bool.or_eq_true] at this
    rcases this with this | this
    · exact absurd (Nat.eq_of_beq_eq_true this) hij
    · intro hab
      subst hab
      simp at this
  · intro i j o t ho ht hj hij
    obtain ⟨p, hp, hpb⟩ := dstOf_some hj
    have := h3 (o, i) (idx0_mem.mpr ho) t ht (p, j) (idx0_mem.mpr hp)
    simp only [hpb, Bool.or_eq_true] at this
    rcases this with this | this | this
    · exact absurd (Nat.eq_of_beq_eq_true this) hij
    · simp at this
    · cases hlt : Nat.blt j i with
      | true =>
        rw [hlt] at this
        exact ⟨fun _ => this, fun h' => by have := Nat.blt_eq.mp hlt; omega⟩
      | false =>
        rw [hlt] at this
        refine ⟨fun h' => ?_, fun _ => this⟩
        rw [Nat.blt_eq.mpr h'] at hlt; cases hlt
  · intro i j o p ho hp eo ep hij
    have := h4 (o, i) (idx0_mem.mpr ho)
    simp only [eo, Bool.not_true, Bool.false_or, List.all_eq_true] at this
    have := this (p, j) (idx0_mem.mpr hp)
    simp only [ep, Bool.not_true, Bool.false_or, Bool.or_eq_true] at this
    rcases this with this | this
    · rw [Nat.blt_eq.mpr hij] at this; cases this
    · exact this
  · intro i o ho
    have := h6 (o, i) (idx0_mem.mpr ho)
    rw [List.any_eq_true] at this
    obtain ⟨x, hx, h7⟩ := this
    have h8 : i = x := Nat.eq_of_beq_eq_true h7
    rw [h8]; exact hx

theorem topo_split {ms : List Nat} : ∀ {pre : List Nat} {i : Nat} {post : List Nat}, topo ms (pre ++ i :: post) = true → ∀ j ∈ post, bit ms i j = false ∧ i ≠ j
  | [], i, post, h, j, hj => by
    simp only [List.nil_append, topo, Bool.and_eq_true, List.all_eq_true] at h
    have := h.1 j hj
    simp only [Bool.and_eq_true, Bool.not_eq_true'] at this
    exact ⟨this.1, Nat.ne_of_beq_eq_false this.2⟩
  | p :: pre, i, post, h, j, hj => by
    simp only [List.cons_append, topo, Bool.and_eq_true] at h
    exact topo_split h.2 j hj

theorem nexts_split : ∀ {pre : List (Nat × TE)} {lo : Nat} {x : Nat × TE} {post : List (Nat × TE)}, nexts lo (pre ++ x :: post) = true →
    lo ≤ x.2.hB.next ∧ x.2.hB.next ≤ x.2.hA.next ∧ nexts x.2.hA.next post = true
  | [], lo, x, post, h => by
    simp only [List.nil_append, nexts, Bool.and_eq_true] at h
    exact ⟨Nat.ble_eq.mp h.1.1, Nat.ble_eq.mp h.1.2, h.2⟩
  | p :: pre, lo, x, post, h => by
    simp only [List.cons_append, nexts, Bool.and_eq_true] at h
    obtain ⟨h1, h2, h3⟩ := nexts_split h.2
    have a := Nat.ble_eq.mp h.1.1
    have b := Nat.ble_eq.mp h.1.2
    exact ⟨by omega, h2, h3⟩

theorem heapsOk_get {all : List Oper} {ms : List Nat} {l : List (Oper × Nat)} {tr : List (Nat × TE)} : ∀ {hs : List AHeap} {k j : Nat} {g : AHeap}, heapsOk T all ms l tr hs k = true → hs[j]? = some g →
    heapOk T g all ms l tr (k + j + 1) = true
  | [], k, j, g, _, hj => by simp at hj
  | a :: hs, k, 0, g, h, hj => by
    simp only [heapsOk, Bool.and_eq_true] at h
    simp at hj; subst hj; exact h.1
  | a :: hs, k, j + 1, g, h, hj => by
    simp only [heapsOk, Bool.and_eq_true] at h
    have := heapsOk_get (j := j) h.2 (by simpa using hj)
    rw [show k + (j + 1) + 1 = k + 1 + j + 1 by omega]; exact this

theorem idx_sorted {α : Type} : ∀ (l : List α) (k : Nat), (idx l k).Pairwise fun x y => x.2 < y.2
  | [], _ => .nil
  | a :: l, k => by
    refine .cons (fun y hy => ?_) (idx_sorted l (k + 1))
    rw [idx_mem] at hy
    show k < y.2
    omega

theorem sorted_lt {α : Type} {l : List (α × Nat)} (h : l.Pairwise fun x y => x.2 < y.2) {i j : Nat} {x y : α × Nat} (hi : l[i]? = some x) (hj : l[j]? = some y) (hij : i < j) : x.2 < y.2 := by
  induction h generalizing i j with
  | nil => simp at hi
  | cons ha _ ih =>
    cases j with
    | zero => omega
    | succ j =>
      cases i with
      | zero =>
        simp at hi hj; subst hi
        exact ha y (List.mem_of_getElem? hj)
      | succ i => exact ih (by simpa using hi) (by simpa using hj) (by omega)

theorem Step.madeH {σ σ' : Emb} {h g g' : AHeap} {w w' : World} (S : Step σ h w σ' g w') (m : Made g g') : Step σ h w σ' g' w' :=
  ⟨S.le, S.rel.made m, S.frame, S.size, Nat.le_trans S.next m.grows.next, S.range, S.newid, S.os, S.output⟩

theorem wanted_congr {all : List Oper} {e g : Env} {o : Oper} (h : ∀ t ∈ looks all o, e t = g t) : wantedA all e o = wantedA all g o := by
  unfold wantedA
  cases hg : o.guard with
  | none => rfl
  | some p =>
    obtain ⟨j, want⟩ := p
    simp only
    cases hp : nth all j with
    | none => rfl
    | some q =>
      simp only
      cases hd : q.dst with
      | none => rfl
      | some d =>
        simp only
        rw [h d (by unfold looks; rw [hg]; simp [hp, hd])]

theorem count_set : ∀ {l : List Bool} {i : Nat}, l[i]? = some false → count (fun b => !b) (l.set i true) + 1 = count (fun b => !b) l
  | [], i, h => by simp at h
  | a :: l, 0, h => by simp at h; subst h; simp [count]
  | a :: l, i + 1, h => by
    have := count_set (l := l) (i := i) (by simpa using h)
    simp only [List.set_cons_succ, count]
    cases a <;> simp <;> omega

theorem count_zero : ∀ {l : List Bool} {i : Nat}, count (fun b => !b) l = 0 → l[i]? ≠ some false
  | [], i, _ => by simp
  | a :: l, 0, h => by
    cases a with
    | true => simp
    | false => simp [count] at h
  | a :: l, i + 1, h => by
    have : count (fun b => !b) l = 0 := by simp only [count] at h; cases a <;> simp at h <;> omega
    simpa using count_zero (i := i) this
end
end Go.AM
