import Derived.Test.YtjiphiegpfleeaaGreatDoorRAmCall
namespace Go.AM

/-! lists with places, masks, counts -/
theorem idx_mem {α : Type} : ∀ (l : List α) (k : Nat) (x : α × Nat), x ∈ idx l k ↔ k ≤ x.2 ∧ l[x.2 - k]? = some x.1
  | [], k, x => by simp [idx]
  | a :: l, k, (b, i) => by
    simp only [idx, List.mem_cons, idx_mem l (k + 1), Prod.mk.injEq]
    constructor
    · rintro (⟨rfl, rfl⟩ | ⟨h1, h2⟩)
      · exact ⟨Nat.le_refl _, by simp⟩
      · exact ⟨by omega, by rw [show i - k = (i - (k + 1)) + 1 by omega]; simpa using h2⟩
    · rintro ⟨h1, h2⟩
      by_cases e : i = k
      · subst e; simp at h2; exact .inl ⟨h2.symm, rfl⟩
      · exact .inr ⟨by omega, by rw [show i - k = (i - (k + 1)) + 1 by omega] at h2; simpa using h2⟩

theorem idx0_mem {α : Type} {l : List α} {x : α × Nat} : x ∈ idx l 0 ↔ l[x.2]? = some x.1 := by
  rw [idx_mem]; simp

def maskStep (acc : List Nat) (s : Nat) (e : Edge) : Nat :=
  bif Region.binds .any e then Nat.lor (Nat.lor s (Nat.shiftLeft 1 e.on)) (match nth acc (acc.length - 1 - e.on) with | some k => k | none => 0) else s

theorem masks_eq (o : Oper) (l : List Oper) (acc : List Nat) : masks (o :: l) acc = masks l (o.after.toList.foldl (maskStep acc) 0 :: acc) := rfl

theorem testBit_fold (acc : List Nat) (j : Nat) : ∀ (es : List Edge) (s : Nat), (es.foldl (maskStep acc) s).testBit j = true →
    s.testBit j = true ∨ ∃ e ∈ es, Region.binds .any e = true ∧ (j = e.on ∨ ∃ k, acc[acc.length - 1 - e.on]? = some k ∧ k.testBit j = true)
  | [], s, h => .inl h
  | e :: es, s, h => by
    rw [List.foldl_cons] at h
    rcases testBit_fold acc j es _ h with h1 | ⟨e', he', h1⟩
    · unfold maskStep at h1
      cases hb : Region.binds .any e with
      | false => rw [hb] at h1; exact .inl h1
      | true =>
        rw [hb] at h1
        simp only [cond_true] at h1
        change ((s ||| (1 <<< e.on)) ||| _).testBit j = true at h1
        rw [Nat.testBit_or, Nat.testBit_or] at h1
        simp only [Bool.or_eq_true] at h1
        rcases h1 with (h1 | h1) | h1
        · exact .inl h1
        · right
          refine ⟨e, List.mem_cons_self .., hb, .inl ?_⟩
          rw [Nat.one_shiftLeft, Nat.testBit_two_pow] at h1
          have : e.on = j := by simpa using h1
          exact this.symm
        · right
          refine ⟨e, List.mem_cons_self .., hb, .inr ?_⟩
          rw [nth_eq] at h1
          split at h1
          · rename_i k hk; exact ⟨k, hk, h1⟩
          · simp at h1
    · exact .inr ⟨e', List.mem_cons_of_mem _ he', h1⟩

theorem masks_prefix : ∀ (l : List Oper) (acc : List Nat), ∃ t, masks l acc = acc.reverse ++ t ∧ t.length = l.length
  | [], acc => ⟨[], by simp [masks], rfl⟩
  | o :: l, acc => by
    rw [masks_eq]
    obtain ⟨t, h1, h2⟩ := masks_prefix l (o.after.toList.foldl (maskStep acc) 0 :: acc)
    exact ⟨_ :: t, by rw [h1]; simp; rfl, by simp [h2]⟩

theorem masks_get : ∀ (l : List Oper) (acc : List Nat) (i : Nat) (o : Oper), l[i]? = some o →
    ∃ acc' : List Nat, acc'.length = acc.length + i ∧ (∃ t, masks l acc = acc'.reverse ++ (o.after.toList.foldl (maskStep acc') 0) :: t)
  | [], acc, i, o, h => by simp at h
  | p :: l, acc, 0, o, h => by
    simp at h; subst h
    rw [masks_eq]
    obtain ⟨t, h1, _⟩ := masks_prefix l (p.after.toList.foldl (maskStep acc) 0 :: acc)
    exact ⟨acc, rfl, t, by rw [h1]; simp⟩
  | p :: l, acc, i + 1, o, h => by
    rw [masks_eq]
    obtain ⟨acc', h1, t, h2⟩ := masks_get l (p.after.toList.foldl (maskStep acc) 0 :: acc) i o (by simpa using h)
    exact ⟨acc', by rw [h1]; simp; omega, t, h2⟩

/-- what a mask's bit says -/
theorem bit_spec {all : List Oper} {i j : Nat} {o : Oper} (ho : all[i]? = some o) (h : bit (masks all []) i j = true) :
    ∃ e ∈ o.after.toList, Region.binds .any e = true ∧ (j = e.on ∨ (e.on < i → bit (masks all []) e.on j = true)) := by
  obtain ⟨acc', h1, t, h2⟩ := masks_get all [] i o ho
  have hlen : acc'.length = i := by simpa using h1
  unfold bit at h
  rw [nth_eq, h2, List.getElem?_append_right (by simp [hlen])] at h
  simp only [List.length_reverse, hlen, Nat.sub_self, List.getElem?_cons_zero] at h
  rcases testBit_fold acc' j _ _ h with h3 | ⟨e, he, hb, h3⟩
  · simp at h3
  · refine ⟨e, he, hb, ?_⟩
    rcases h3 with h3 | ⟨k, hk, h3⟩
    · exact .inl h3
    · right
      intro hon
      unfold bit
      rw [nth_eq, h2, List.getElem?_append_left (by simp [hlen]; exact hon), List.getElem?_reverse (by omega), hk]
      exact h3

def Closed (all : List Oper) (D : Nat → Prop) : Prop := ∀ i o, all[i]? = some o → D i → ∀ e ∈ o.after.toList, Region.binds .any e = true → D e.on
def Topo (all : List Oper) : Prop := ∀ i o, all[i]? = some o → ∀ e ∈ o.after.toList, Region.binds .any e = true → e.on < i

theorem bit_closed {all : List Oper} (ht : Topo all) {D : Nat → Prop} (hc : Closed all D) : ∀ (i : Nat) (o : Oper), all[i]? = some o →
    (∀ e ∈ o.after.toList, Region.binds .any e = true → D e.on) → ∀ j, bit (masks all []) i j = true → D j := by
  intro i
  induction i using Nat.strongRecOn with
  | _ i ih =>
    intro o ho he j hj
    obtain ⟨e, hem, hb, h1⟩ := bit_spec ho hj
    have hd := he e hem hb
    rcases h1 with rfl | h1
    · exact hd
    · have hlt := ht i o ho e hem hb
      have hb2 := h1 hlt
      have hi : i < all.length := by
        rcases Nat.lt_or_ge i all.length with h' | h'
        · exact h'
        · rw [List.getElem?_eq_none h'] at ho; cases ho
      obtain ⟨o2, ho2⟩ : ∃ o2, all[e.on]? = some o2 := ⟨all[e.on], List.getElem?_eq_getElem (by omega)⟩
      exact ih e.on hlt o2 ho2 (hc e.on o2 ho2 hd) j hb2

theorem bit_done {all : List Oper} (ht : Topo all) {D : Nat → Prop} (hc : Closed all D) {i : Nat} {o : Oper} (ho : all[i]? = some o) (hd : D i) {j : Nat} (h : bit (masks all []) i j = true) : D j :=
  bit_closed ht hc i o ho (hc i o ho hd) j h

theorem count_le {α : Type} {p q : α → Bool} : ∀ {l : List α}, (∀ x ∈ l, p x = true → q x = true) → count p l ≤ count q l
  | [], _ => Nat.le_refl _
  | a :: l, h => by
    have ih : count p l ≤ count q l := count_le fun x hx => h x (List.mem_cons_of_mem _ hx)
    simp only [count]
    have ha := h a (List.mem_cons_self ..)
    cases hp : p a <;> cases hq : q a <;> simp only [cond_true, cond_false] <;> first | omega | (rw [ha hp] at hq; cases hq)

theorem count_filter {α : Type} (p q : α → Bool) : ∀ (l : List α), count (fun x => p x && q x) l = count q (l.filter p)
  | [] => rfl
  | a :: l => by
    simp only [count, List.filter_cons, count_filter p q l]
    cases p a <;> simp [count]

/-- how many are ahead of the m-th -/
theorem count_le_at {α : Type} {q : α → Bool} : ∀ (l : List α) (m : Nat), (∀ (k : Nat) x, l[k]? = some x → q x = true → k < m) → count q l ≤ m
  | [], m, _ => Nat.zero_le _
  | a :: l, m, h => by
    simp only [count]
    cases ha : q a with
    | false =>
      simp only [cond_false]
      cases m with
      | zero =>
        refine count_le_at l 0 fun k x hx hq => ?_
        have := h (k + 1) x (by simpa using hx) hq; omega
      | succ m =>
        have := count_le_at l m fun k x hx hq => by have := h (k + 1) x (by simpa using hx) hq; omega
        omega
    | true =>
      have h0 := h 0 a rfl ha
      simp only [cond_true]
      have := count_le_at l (m - 1) fun k x hx hq => by have := h (k + 1) x (by simpa using hx) hq; omega
      omega

theorem le_count_at {α : Type} {q : α → Bool} : ∀ (l : List α) (m : Nat), m ≤ l.length → (∀ (k : Nat) x, l[k]? = some x → k < m → q x = true) → m ≤ count q l
  | [], m, hm, _ => by simp at hm; omega
  | a :: l, 0, _, _ => Nat.zero_le _
  | a :: l, m + 1, hm, h => by
    simp only [count]
    rw [h 0 a rfl (by omega)]
    simp only [cond_true]
    have := le_count_at l m (by simpa using hm) fun k x hx hk => h (k + 1) x (by simpa using hx) (by omega)
    omega

/-! values that are told to be the same are -/
theorem sameCell_eq {a b : Value} (h : sameCell a b = true) : a = b := by
  unfold sameCell at h
  split at h
  · rw [beq_iff_eq] at h; rw [h]
  · simp only [Bool.and_eq_true, decide_eq_true_eq, beq_iff_eq] at h; rw [h.1, h.2]
  · rw [beq_iff_eq] at h; rw [strBytes_inj h]
  · rfl
  · simp only [decide_eq_true_eq] at h; rw [h]
  · simp only [Bool.and_eq_true] at h
    rw [Nat.eq_of_beq_eq_true h.1, Nat.eq_of_beq_eq_true h.2]
  · simp only [Bool.and_eq_true, decide_eq_true_eq] at h
    rw [h.1.1, Nat.eq_of_beq_eq_true h.1.2, Nat.eq_of_beq_eq_true h.2]
  · rfl
  · rw [Nat.eq_of_beq_eq_true h]
  · rfl
  · rfl
  · cases h

theorem sameCells_eq : ∀ {l m : List Value}, sameCells l m = true → l = m
  | [], [], _ => rfl
  | [], _ :: _, h => by cases h
  | _ :: _, [], h => by cases h
  | a :: l, b :: m, h => by
    simp only [sameCells, Bool.and_eq_true] at h
    rw [sameCell_eq h.1, sameCells_eq h.2]

theorem sameVal_eq {a b : Value} (h : sameVal a b = true) : a = b := by
  unfold sameVal at h
  split at h
  · rw [Array.ext' (sameCells_eq h)]
  · rw [Array.ext' (sameCells_eq h)]
  · simp only [Bool.and_eq_true] at h
    rw [Nat.eq_of_beq_eq_true h.1.1, Array.ext' (sameCells_eq h.1.2), Array.ext' (sameCells_eq h.2)]
  · exact sameCell_eq h

end Go.AM
