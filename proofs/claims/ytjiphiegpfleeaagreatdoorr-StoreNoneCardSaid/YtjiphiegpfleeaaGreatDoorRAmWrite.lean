import Derived.Test.YtjiphiegpfleeaaGreatDoorRAmHeap
namespace Go.AM

theorem setCell_heap (w : World) {β o : Nat} {c : Array Value} {el : TypeId} {fr : Nat × Nat} (h : w.heap[β]? = some (.cells c el fr)) (v : Value) :
    w.setCell ⟨β, o, none⟩ v = { w with heap := w.heap.setIfInBounds β (.cells (c.setIfInBounds o v) el fr) } := by
  unfold World.setCell
  congr 1
  apply Array.ext_getElem?
  intro i
  rw [Array.getElem?_modify, Array.getElem?_setIfInBounds]
  by_cases hi : β = i
  · subst hi
    have : β < w.heap.size := by
      rcases Nat.lt_or_ge β w.heap.size with h' | h'
      · exact h'
      · rw [Array.getElem?_eq_none h'] at h; cases h
    rw [h]; simp [this]
  · simp [hi]

theorem add_none (β o i : Nat) : (⟨β, o, none⟩ : Addr).add i = ⟨β, o + i, none⟩ := by
  unfold Addr.add; split
  · rename_i h; subst h; rfl
  · rfl

theorem RowAt.set {w : World} {β o : Nat} {c : Array Value} (h : RowAt w β c) (v : Value) :
    RowAt (w.setCell ⟨β, o, none⟩ v) β (c.setIfInBounds o v) ∧ (∀ β', β' ≠ β → (w.setCell ⟨β, o, none⟩ v).heap[β']? = w.heap[β']?) := by
  have hβ := h.lt
  obtain ⟨el, fr, h1, h2⟩ := h
  rw [setCell_heap w h1]
  refine ⟨⟨el, fr, by simp [hβ], by simpa using h2⟩, fun β' hne => ?_⟩
  simp only
  rw [Array.getElem?_setIfInBounds, if_neg (fun h => hne h.symm)]

/-- what becomes of a world of which one block is written -/
structure Wrote (w w2 : World) (β : Nat) : Prop where
  size : w2.heap.size = w.heap.size
  other : ∀ β', β' ≠ β → w2.heap[β']? = w.heap[β']?
  tape : w2.tape = w.tape
  os : w2.os = w.os
  output : w2.output = w.output
theorem Wrote.refl (w : World) (β : Nat) : Wrote w w β := ⟨rfl, fun _ _ => rfl, rfl, rfl, rfl⟩

theorem run_storeCells (P : Program) : ∀ (xs : List Value) (i : Nat) (w : World) (c : Array Value) (β o : Nat), RowAt w β c →
    o + i + xs.length ≤ c.size → (∀ x ∈ xs, x.oneCell' = true) →
    ∃ c' w2, (storeCells ⟨β, o, none⟩ xs i).run P w = .ok () w2 ∧ Wrote w w2 β ∧ RowAt w2 β c' ∧ c'.size = c.size ∧
      ∀ j, c'[j]? = if o + i ≤ j ∧ j < o + i + xs.length then xs[j - (o + i)]? else c[j]?
  | [], i, w, c, β, o, h, _, _ => by
    refine ⟨c, w, rfl, Wrote.refl w β, h, rfl, fun j => ?_⟩
    simp only [List.length_nil]; rw [if_neg (by omega)]
  | x :: xs, i, w, c, β, o, h, hl, hx => by
    simp only [List.length_cons] at hl
    have hcell : w.cell? ⟨β, o + i, none⟩ = some c[o + i] := by rw [h.cell]; simp
    have hfr : w.frozen? ⟨β, o + i, none⟩ = false := h.free (by omega)
    have h1 : (store ((⟨β, o, none⟩ : Addr).add i) x).run P w = .ok () (w.setCell ⟨β, o + i, none⟩ x) := by
      rw [add_none, run_store P w _ _ _ (hx x (List.mem_cons_self ..)), hcell]
      simp [hfr]
    obtain ⟨h2, h3⟩ := h.set (o := o + i) x
    obtain ⟨c', w2, r1, rw1, rr, r2, r3⟩ := run_storeCells P xs (i + 1) _ _ β o h2 (by simp; omega) (fun y hy => hx y (List.mem_cons_of_mem _ hy))
    refine ⟨c', w2, ?_, ⟨by rw [rw1.size]; simp, fun β' hne => (rw1.other β' hne).trans (h3 β' hne), rw1.tape, rw1.os, rw1.output⟩, rr, by rw [r2]; simp, fun j => ?_⟩
    · unfold storeCells
      rw [Sem.run_bind, h1]
      simp only [Result.andThen_ok]
      exact r1
    · rw [r3]
      simp only [List.length_cons]
      by_cases hj : o + i ≤ j ∧ j < o + i + (xs.length + 1)
      · rw [if_pos hj]
        by_cases e : j = o + i
        · subst e
          rw [if_neg (by omega)]
          simp only [Nat.sub_self, List.getElem?_cons_zero]
          rw [Array.getElem?_setIfInBounds]; simp; omega
        · rw [if_pos (by omega)]
          have : j - (o + i) = (j - (o + (i + 1))) + 1 := by omega
          rw [this, List.getElem?_cons_succ]
      · rw [if_neg hj, if_neg (by omega), Array.getElem?_setIfInBounds, if_neg (by omega)]

theorem VRel.oneCell {σ : Emb} {v v' : Value} (h : VRel σ v v') (hs : scalarCell v = true) : v'.oneCell' = true := by
  cases h <;> first | rfl | (simp [scalarCell] at hs)

theorem VRels.oneCell {σ : Emb} : ∀ {l l' : List Value}, VRels σ l l' → l.all scalarCell = true → ∀ x ∈ l', x.oneCell' = true
  | _, _, .nil, _, x, hx => by cases hx
  | _, _, .cons hv t, hs, x, hx => by
    simp only [List.all_cons, Bool.and_eq_true] at hs
    cases hx with
    | head => exact hv.oneCell hs.1
    | tail _ hm => exact VRels.oneCell t hs.2 x hm

/-- put into a row of cells -/
theorem VRels.put {σ : Emb} {vs xs xs' r : List Value} {c c' : Array Value} {s off : Nat} (hv : VRels σ vs ((c.toList.drop s).take vs.length)) (hl : s + vs.length ≤ c.size)
    (X : VRels σ xs xs') (ho : AM.over vs off xs = some r) (hsz : c'.size = c.size)
    (hc : ∀ j, c'[j]? = if s + off ≤ j ∧ j < s + off + xs.length then xs'[j - (s + off)]? else c[j]?) : VRels σ r ((c'.toList.drop s).take r.length) := by
  obtain ⟨h1, h2, h3⟩ := over_spec ho
  have hlen : ((c'.toList.drop s).take r.length).length = r.length := by simp; omega
  refine VRels.of hlen.symm fun i v v' e e' => ?_
  have hi : i < r.length := by
    rcases Nat.lt_or_ge i r.length with h' | h'
    · exact h'
    · rw [List.getElem?_eq_none h'] at e; cases e
  rw [List.getElem?_take_of_lt hi, List.getElem?_drop] at e'
  have e'' : c'[s + i]? = some v' := by simpa using e'
  rw [hc] at e''
  rw [h3] at e
  by_cases hin : off ≤ i ∧ i < off + xs.length
  · rw [if_pos hin] at e
    rw [if_pos (by omega)] at e''
    obtain ⟨y, hy, hr⟩ := X.get _ _ e
    rw [show s + i - (s + off) = i - off by omega, hy] at e''
    injection e'' with e''; subst e''; exact hr
  · rw [if_neg hin] at e
    rw [if_neg (by omega)] at e''
    obtain ⟨y, hy, hr⟩ := hv.get _ _ e
    rw [List.getElem?_take_of_lt (by omega), List.getElem?_drop] at hy
    have hy' : c[s + i]? = some y := by simpa using hy
    rw [hy'] at e''
    injection e'' with e''; subst e''; exact hr

theorem write_inv {h h' : AHeap} {b off : Nat} {xs : List Value} (e : h.write b off xs = some h') :
    xs.all scalarCell = true ∧ ((∃ vs r, h.objs.get b = some (.var vs) ∧ over vs off xs = some r ∧ h' = ⟨h.objs.set (.var r) b, h.next, h.fams⟩) ∨
      (∃ vs r k f v, h.objs.get b = some (.row vs k f v) ∧ v = (h.fam f).1 ∧ over vs off xs = some r ∧
        ((h.fams.get f = none ∧ h' = ⟨h.objs.set (.row r k f v) b, h.next, h.fams⟩) ∨
          (∃ v0 t, h.fams.get f = some (v0, t) ∧ h' = ⟨h.objs.set (.row r k f (v0 + 1)) b, h.next, h.fams.set (v0 + 1, b) f⟩)))) := by
  unfold AHeap.write at e
  cases hs : xs.all scalarCell with
  | false => rw [hs] at e; cases e
  | true =>
    rw [hs] at e
    simp only [cond_true] at e
    refine ⟨rfl, ?_⟩
    split at e
    · rename_i vs ho
      split at e
      · rename_i r hr
        injection e with e
        exact .inl ⟨vs, r, ho, hr, e.symm⟩
      · cases e
    · rename_i vs k f v ho
      cases hv : Nat.beq v (h.fam f).1 with
      | false => rw [hv] at e; cases e
      | true =>
        rw [hv] at e
        simp only [cond_true] at e
        split at e
        · rename_i r hr
          split at e
          · rename_i hf
            injection e with e
            exact .inr ⟨vs, r, k, f, v, ho, Nat.eq_of_beq_eq_true hv, hr, .inl ⟨hf, e.symm⟩⟩
          · rename_i v0 t hf
            injection e with e
            exact .inr ⟨vs, r, k, f, v, ho, Nat.eq_of_beq_eq_true hv, hr, .inr ⟨v0, t, hf, e.symm⟩⟩
        · cases e
    · cases e

theorem Step.write {σ : Emb} {h h' : AHeap} {w : World} (H : HRel σ h w) {b β s off : Nat} {xs xs' : List Value} (hb : σ b = some (β, s)) (e : h.write b off xs = some h') (X : VRels σ xs xs') :
    ∃ c, RowAt w β c ∧ (s + off + xs'.length ≤ c.size ∨ xs' = []) ∧ (∀ x ∈ xs', x.oneCell' = true) ∧
      ∀ (c' : Array Value) (w2 : World), c'.size = c.size → (∀ j, c'[j]? = if s + off ≤ j ∧ j < s + off + xs'.length then xs'[j - (s + off)]? else c[j]?) →
        RowAt w2 β c' → Wrote w w2 β → Step σ h w σ h' w2 := by
  obtain ⟨hs, hc⟩ := write_inv e
  have hxl : xs.length = xs'.length := X.length
  have hβ := (H.old b β s hb).2
  have hbn := (H.old b β s hb).1
  -- the block, and what may be known of it
  have key : ∃ vs r c, over vs off xs = some r ∧ RowAt w β c ∧ s + vs.length ≤ c.size ∧ VRels σ vs ((c.toList.drop s).take vs.length) ∧
      (∀ b' β' s' , σ b' = some (β', s') → b' ≠ b → β' = β → ∃ vs' k f v', h'.objs.get b' = some (.row vs' k f v') ∧ v' ≠ (h'.fam f).1) ∧
      (∀ b', b' ≠ b → h'.objs.get b' = h.objs.get b') ∧ h'.next = h.next ∧
      ((h.objs.get b = some (.var vs) ∧ s = 0 ∧ vs.length = c.size ∧ h'.objs.get b = some (.var r) ∧ h'.fams = h.fams) ∨
        (∃ k f v, h.objs.get b = some (.row vs k f v) ∧ v = (h.fam f).1 ∧ c.size = (σ.kl b).2 ∧ h'.objs.get b = some (.row r k f (h'.fam f).1) ∧
          ((h'.fams = h.fams ∧ h.fams.get f = none) ∨ ∃ v0 t, h.fams.get f = some (v0, t) ∧ h'.fams = h.fams.set (v0 + 1, b) f))) := by
    rcases hc with ⟨vs, r, ho, hr, rfl⟩ | ⟨vs, r, k, f, v, ho, hv, hr, ⟨hf, rfl⟩ | ⟨v0, t, hf, rfl⟩⟩
    · obtain ⟨rfl, c, hc, hrel⟩ := H.var b β s vs hb ho
      have hlen := hrel.length
      simp only [Array.length_toList] at hlen
      refine ⟨vs, r, c, hr, hc, by omega, ?_, ?_, fun b' hb' => by simp only [Trie.get_set]; rw [if_neg hb'], rfl, .inl ⟨ho, rfl, hlen, by simp only [Trie.get_set]; rw [if_pos trivial], rfl⟩⟩
      · rw [List.drop_zero, List.take_of_length_le (by simp; omega)]; exact hrel
      · intro b' β' s' e1 hne e2
        subst e2
        rcases H.sep b b' β' 0 s' hb e1 with h1 | ⟨_, _, _, _, _, _, _, h1, _⟩
        · exact absurd h1.symm hne
        · rw [ho] at h1; cases h1
    · obtain ⟨c, hc, hl, hk, hrel⟩ := H.row b β s vs k f v hb ho hv
      refine ⟨vs, r, c, hr, hc, hl, hrel, ?_, fun b' hb' => by simp only [Trie.get_set]; rw [if_neg hb'], rfl, .inr ⟨k, f, v, ho, hv, hk, ?_, .inl ⟨rfl, hf⟩⟩⟩
      · intro b' β' s' e1 hne e2
        subst e2
        rcases H.sep b b' β' s s' hb e1 with h1 | ⟨vs1, vs2, k1, k2, f1, v1, v2, h1, h2⟩
        · exact absurd h1.symm hne
        · rw [ho] at h1; injection h1 with h1; injection h1 with _ _ h1 _
          subst h1
          have a1 := H.rowone b' _ _ _ _ h2 hf
          have a2 := H.rowone b _ _ _ _ ho hf
          exact absurd (a1.trans a2.symm) hne
      · simp only [Trie.get_set]; rw [if_pos trivial, hv]; rfl
    · obtain ⟨c, hc, hl, hk, hrel⟩ := H.row b β s vs k f v hb ho hv
      have hfam : ((⟨h.objs.set (.row r k f (v0 + 1)) b, h.next, h.fams.set (v0 + 1, b) f⟩ : AHeap).fam f) = (v0 + 1, b) := by
        simp only [AHeap.fam, Trie.get_set]; simp
      have hold : (h.fam f).1 = v0 := by simp only [AHeap.fam, hf]
      refine ⟨vs, r, c, hr, hc, hl, hrel, ?_, fun b' hb' => by simp only [Trie.get_set]; rw [if_neg hb'], rfl, .inr ⟨k, f, v, ho, hv, hk, ?_, .inr ⟨v0, t, hf, rfl⟩⟩⟩
      · intro b' β' s' e1 hne e2
        subst e2
        rcases H.sep b b' β' s s' hb e1 with h1 | ⟨vs1, vs2, k1, k2, f1, v1, v2, h1, h2⟩
        · exact absurd h1.symm hne
        · rw [ho] at h1; injection h1 with h1; injection h1 with _ _ h1 _
          subst h1
          refine ⟨vs2, k2, f, v2, by simp only [Trie.get_set]; rw [if_neg hne]; exact h2, ?_⟩
          rw [hfam]
          have := (H.rowver b' _ _ _ _ h2).2
          rw [hold] at this; simp only; omega
      · simp only [Trie.get_set]; rw [if_pos trivial, hfam]
  obtain ⟨vs, r, c, hr, hcell, hl, hrel, hoth, hobj, hnext, hkind⟩ := key
  obtain ⟨g1, g2, g3⟩ := over_spec hr
  refine ⟨c, hcell, ?_, X.oneCell hs, ?_⟩
  · rcases g2 with g2 | g2
    · left; omega
    · right; subst g2; exact List.eq_nil_of_length_eq_zero (by simpa using hxl.symm)
  intro c' w2 hsz hc' hβ2 hw2
  rw [← hxl] at hc'
  have hput : VRels σ r ((c'.toList.drop s).take r.length) := VRels.put hrel hl X hr hsz hc'
  have hsize2 := hw2.size
  have hother := hw2.other
  -- families are the old ones, or the written one's is bumped
  have hfamEq : ∀ f, (h'.fam f = h.fam f) ∨ (∃ k v, h.objs.get b = some (.row vs k f v) ∧ (h'.fam f).1 = (h.fam f).1 + 1 ∧ (h'.fam f).2 = b) := by
    intro f
    rcases hkind with ⟨_, _, _, _, k⟩ | ⟨kk, f', v, ho, hv, _, _, ⟨k, _⟩ | ⟨v0, t, k1, k2⟩⟩
    · left; simp only [AHeap.fam, k]
    · left; simp only [AHeap.fam, k]
    · by_cases hf : f = f'
      · subst hf; right; exact ⟨kk, v, ho, by simp only [AHeap.fam, k1, k2, Trie.get_set]; simp, by simp only [AHeap.fam, k2, Trie.get_set]; simp⟩
      · left; simp only [AHeap.fam, k2, Trie.get_set]; rw [if_neg hf]
  refine ⟨Emb.le_refl σ, ?_, fun β' hβ' hn => hother β' (fun h => hn b s (by rw [h]; exact hb)), by omega, by omega, fun b0 β0 s0 e0 _ => ⟨b0, s0, e0⟩, fun _ _ e0 => .inl e0, hw2.os, hw2.output⟩
  constructor
  · intro b0 β0 s0 e0; rw [hsize2, hnext]; exact H.old b0 β0 s0 e0
  · intro b0 β0 s0 vs0 e0 ho0
    by_cases hb0 : b0 = b
    · subst hb0
      rw [hb] at e0; injection e0 with e0; injection e0 with e1 e2; subst e1; subst e2
      rcases hkind with ⟨_, rfl, hvl, k, _⟩ | ⟨_, f, v, _, _, _, k, _⟩
      · rw [k] at ho0; injection ho0 with ho0; injection ho0 with ho0; subst ho0
        refine ⟨rfl, c', hβ2, ?_⟩
        have : (c'.toList.drop 0).take r.length = c'.toList := by
          rw [List.drop_zero, List.take_of_length_le (by simp; omega)]
        rw [this] at hput; exact hput
      · rw [k] at ho0; cases ho0
    · rw [hobj b0 hb0] at ho0
      obtain ⟨hs0, c0, hc0, hr0⟩ := H.var b0 β0 s0 vs0 e0 ho0
      refine ⟨hs0, c0, hc0.congr (hother β0 ?_), hr0⟩
      intro hββ
      obtain ⟨_, _, _, _, k, _⟩ := hoth b0 β0 s0 e0 hb0 hββ
      rw [hobj b0 hb0, ho0] at k; cases k
  · intro b0 β0 s0 vs0 kk0 f0 v0 e0 ho0 hv0
    by_cases hb0 : b0 = b
    · subst hb0
      rw [hb] at e0; injection e0 with e0; injection e0 with e1 e2; subst e1; subst e2
      rcases hkind with ⟨_, _, _, k, _⟩ | ⟨_, f, v, _, _, hck, k, _⟩
      · rw [k] at ho0; cases ho0
      · rw [k] at ho0; injection ho0 with ho0; injection ho0 with ho0 _ _ _; subst ho0
        exact ⟨c', hβ2, by omega, by omega, hput⟩
    · have hββ : β0 ≠ β := by
        intro hββ
        obtain ⟨_, _, _, _, k, kv⟩ := hoth b0 β0 s0 e0 hb0 hββ
        rw [ho0] at k; injection k with k; injection k with _ _ k1 k2; subst k1; subst k2
        exact kv hv0
      rw [hobj b0 hb0] at ho0
      have hv0' : v0 = (h.fam f0).1 := by
        rcases hfamEq f0 with k | ⟨_, _, _, k, _⟩
        · rw [k] at hv0; exact hv0
        · have := (H.rowver b0 vs0 kk0 f0 v0 ho0).2; omega
      obtain ⟨c0, hc0, hl0, hk0, hr0⟩ := H.row b0 β0 s0 vs0 kk0 f0 v0 e0 ho0 hv0'
      exact ⟨c0, hc0.congr (hother β0 hββ), hl0, hk0, hr0⟩
  · intro b0 x0 vs0 kk0 f0 v0 e0 ho0
    by_cases hb0 : b0 = b
    · subst hb0
      rcases hkind with ⟨_, _, _, k, _⟩ | ⟨_, f, v, ko, _, _, k, _⟩
      · rw [k] at ho0; cases ho0
      · rw [k] at ho0; injection ho0 with ho0; injection ho0 with _ ho0 _ _; subst ho0
        exact H.rowk _ _ _ _ _ _ e0 ko
    · rw [hobj b0 hb0] at ho0
      exact H.rowk _ _ _ _ _ _ e0 ho0
  · intro b0 x0 vs0 e0 ho0
    by_cases hb0 : b0 = b
    · subst hb0
      rcases hkind with ⟨ko, _, _, k, _⟩ | ⟨_, f, v, ko, _, _, k, _⟩
      · exact H.vark _ _ _ e0 ko
      · rw [k] at ho0; cases ho0
    · rw [hobj b0 hb0] at ho0
      exact H.vark _ _ _ e0 ho0
  · intro b0 β0 s0 es e0 ho0
    by_cases hb0 : b0 = b
    · subst hb0
      rcases hkind with ⟨_, _, _, k, _⟩ | ⟨_, f, v, _, _, _, k, _⟩ <;> (rw [k] at ho0; cases ho0)
    · have hββ : β0 ≠ β := by
        intro hββ
        obtain ⟨_, _, _, _, k, _⟩ := hoth b0 β0 s0 e0 hb0 hββ
        rw [ho0] at k; cases k
      rw [hobj b0 hb0] at ho0
      obtain ⟨hs0, en, cl, hc0, hr0⟩ := H.map b0 β0 s0 es e0 ho0
      exact ⟨hs0, en, cl, by rw [hother β0 hββ]; exact hc0, hr0⟩
  · intro b0 b1 β0 s0 s1 e0 e1
    rcases H.sep b0 b1 β0 s0 s1 e0 e1 with k | ⟨vs0, vs1, kk0, kk1, f, v0, v1, k0, k1⟩
    · exact .inl k
    · have conv : ∀ b2 vs2 kk2 v2, h.objs.get b2 = some (.row vs2 kk2 f v2) → ∃ vs3 kk3 v3, h'.objs.get b2 = some (.row vs3 kk3 f v3) := by
        intro b2 vs2 kk2 v2 k2
        by_cases hb2 : b2 = b
        · subst hb2
          rcases hkind with ⟨k, _⟩ | ⟨_, f', v, k, _, _, k', _⟩
          · rw [k] at k2; cases k2
          · rw [k] at k2; injection k2 with k2; injection k2 with _ _ k2 _; subst k2
            exact ⟨_, _, _, k'⟩
        · exact ⟨vs2, kk2, v2, by rw [hobj b2 hb2]; exact k2⟩
      obtain ⟨a1, a1', a2, a3⟩ := conv b0 vs0 kk0 v0 k0
      obtain ⟨a4, a4', a5, a6⟩ := conv b1 vs1 kk1 v1 k1
      exact .inr ⟨a1, a4, a1', a4', f, a2, a5, a3, a6⟩
  · intro b0 hb0
    rw [hnext] at hb0
    rw [hobj b0 (by omega)]; exact H.fresh b0 hb0
  · intro b0 vs0 kk0 f0 v0 ho0
    rw [hnext]
    by_cases hb0 : b0 = b
    · subst hb0
      rcases hkind with ⟨_, _, _, k, _⟩ | ⟨_, f, v, ko, _, _, k, _⟩
      · rw [k] at ho0; cases ho0
      · rw [k] at ho0; injection ho0 with ho0; injection ho0 with _ _ h1 h2; subst h1; subst h2
        exact ⟨(H.rowver _ _ _ _ _ ko).1, Nat.le_refl _⟩
    · rw [hobj b0 hb0] at ho0
      have := H.rowver b0 vs0 kk0 f0 v0 ho0
      refine ⟨this.1, ?_⟩
      rcases hfamEq f0 with k | ⟨_, _, _, k, _⟩
      · rw [k]; exact this.2
      · rw [k]; omega
  · intro b0 vs0 kk0 f0 v0 ho0 hf0
    have hf0' : h.fams.get f0 = none := by
      rcases hkind with ⟨_, _, _, _, k⟩ | ⟨_, f', v, _, _, _, _, ⟨k, _⟩ | ⟨v0, t, k1, k2⟩⟩
      · rw [k] at hf0; exact hf0
      · rw [k] at hf0; exact hf0
      · rw [k2, Trie.get_set] at hf0
        by_cases hf : f0 = f'
        · rw [if_pos hf] at hf0; cases hf0
        · rw [if_neg hf] at hf0; exact hf0
    by_cases hb0 : b0 = b
    · subst hb0
      rcases hkind with ⟨_, _, _, k, _⟩ | ⟨_, f, v, ko, _, _, k, _⟩
      · rw [k] at ho0; cases ho0
      · rw [k] at ho0; injection ho0 with ho0; injection ho0 with _ _ h1 h2; subst h1
        exact H.rowone _ _ _ _ _ ko hf0'
    · rw [hobj b0 hb0] at ho0
      exact H.rowone b0 vs0 kk0 f0 v0 ho0 hf0'
  · intro f x hx
    rw [hnext]
    rcases hkind with ⟨_, _, _, _, k⟩ | ⟨_, f', v, _, _, _, _, ⟨k, _⟩ | ⟨v0, t, k1, k2⟩⟩
    · rw [k] at hx; exact H.famnext f x hx
    · rw [k] at hx; exact H.famnext f x hx
    · rw [k2, Trie.get_set] at hx
      by_cases hf : f = f'
      · subst hf; exact H.famnext f _ k1
      · rw [if_neg hf] at hx; exact H.famnext f x hx
  · intro f β0 st vst kt vt b0 s0 vs0 k0 v0 e1 ho1 e2 ho2 hv
    -- lengths of rows are as they were
    have back : ∀ b2 vs2 k2 f2 v2, h'.objs.get b2 = some (.row vs2 k2 f2 v2) → ∃ vs3 k3 v3, h.objs.get b2 = some (.row vs3 k3 f2 v3) ∧ vs3.length = vs2.length ∧ (b2 ≠ b → v3 = v2) := by
      intro b2 vs2 kk2 f2 v2 k2
      by_cases hb2 : b2 = b
      · subst hb2
        rcases hkind with ⟨_, _, _, k, _⟩ | ⟨kk, f', v, ko, _, _, k, _⟩
        · rw [k] at k2; cases k2
        · rw [k] at k2; injection k2 with k2; injection k2 with h1 _ h2 _; subst h1; subst h2
          exact ⟨vs, kk, v, ko, g1.symm, fun h => absurd rfl h⟩
      · exact ⟨vs2, kk2, v2, by rw [← hobj b2 hb2]; exact k2, rfl, fun _ => rfl⟩
    rcases hfamEq f with k | ⟨kk, v, ko, kv, kt'⟩
    · rw [k] at e1 ho1 hv
      obtain ⟨vst', kt', vt', a1, a2, _⟩ := back _ _ _ _ _ ho1
      obtain ⟨vs0', k0', v0', a3, a4, a5⟩ := back _ _ _ _ _ ho2
      rw [← a2, ← a4]
      refine H.tip f β0 st vst' kt' vt' b0 s0 vs0' k0' v0' e1 a1 e2 a3 ?_
      by_cases hb0 : b0 = b
      · subst hb0
        rcases hkind with ⟨ka, _⟩ | ⟨_, f', v, ko, kv, _, k', _⟩
        · rw [ka] at a3; cases a3
        · rw [ko] at a3; injection a3 with a3; injection a3 with _ _ h2 h3; subst h2; subst h3; exact kv
      · rw [a5 hb0]; exact hv
    · rw [kt'] at e1 ho1
      by_cases hb0 : b0 = b
      · subst hb0
        rw [e1] at e2; injection e2 with e2; injection e2 with _ e2
        rw [ho1] at ho2; injection ho2 with ho2; injection ho2 with ho2 _ _ _
        subst ho2; omega
      · rw [hobj b0 hb0] at ho2
        have := (H.rowver b0 vs0 k0 f v0 ho2).2
        omega

end Go.AM
