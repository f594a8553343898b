import Derived.Test.YtjiphiegpfleeaaGreatDoorRAmRel
namespace Go.AM

inductive ERels (σ : Emb) : List (Value × Value) → List MapEntry → Prop
  | nil : ERels σ [] []
  | cons {k v : Value} {e : MapEntry} {l : List (Value × Value)} {l' : List MapEntry} (hk : VRel σ k e.key) (hv : VRel σ v e.val) (t : ERels σ l l') :
      ERels σ ((k, v) :: l) (e :: l')

theorem ERels.mono {σ τ : Emb} (hs : Emb.le σ τ) : ∀ {l : List (Value × Value)} {l' : List MapEntry}, ERels σ l l' → ERels τ l l'
  | _, _, .nil => .nil
  | _, _, .cons hk hv t => .cons (hk.mono hs) (hv.mono hs) (ERels.mono hs t)

/-- the entries' stamps rise, and lie below the clock -/
structure MapOk (ents : List MapEntry) (clock : Nat) : Prop where
  rise : (ents.map (·.born)).Pairwise (· < ·)
  below : ∀ e ∈ ents, e.born < clock

/-- a block that is a row of cells, none of which is frozen -/
def RowAt (w : World) (β : Nat) (c : Array Value) : Prop := ∃ el fr, w.heap[β]? = some (.cells c el fr) ∧ (fr.2 ≤ fr.1 ∨ c.size ≤ fr.1)

theorem RowAt.congr {w w' : World} {β : Nat} {c : Array Value} (h : RowAt w β c) (e : w'.heap[β]? = w.heap[β]?) : RowAt w' β c := by
  obtain ⟨el, fr, h1, h2⟩ := h; exact ⟨el, fr, by rw [e]; exact h1, h2⟩
theorem RowAt.lt {w : World} {β : Nat} {c : Array Value} (h : RowAt w β c) : β < w.heap.size := by
  obtain ⟨el, fr, h1, _⟩ := h
  rcases Nat.lt_or_ge β w.heap.size with h' | h'
  · exact h'
  · rw [Array.getElem?_eq_none h'] at h1; cases h1
theorem RowAt.cell {w : World} {β : Nat} {c : Array Value} (h : RowAt w β c) (i : Nat) : w.cell? ⟨β, i, none⟩ = c[i]? := by
  obtain ⟨el, fr, h1, _⟩ := h; simp [World.cell?, h1]
theorem RowAt.free {w : World} {β : Nat} {c : Array Value} (h : RowAt w β c) {i : Nat} (hi : i < c.size) : w.frozen? ⟨β, i, none⟩ = false := by
  obtain ⟨el, fr, h1, h2⟩ := h
  obtain ⟨lo, hi'⟩ := fr
  simp only [World.frozen?, h1, Bool.and_eq_false_iff, decide_eq_false_iff_not]
  dsimp only at h2; omega
theorem RowAt.inj {w : World} {β : Nat} {c c' : Array Value} (h : RowAt w β c) (h' : RowAt w β c') : c = c' := by
  obtain ⟨el, fr, h1, _⟩ := h; obtain ⟨el', fr', h1', _⟩ := h'
  rw [h1] at h1'; injection h1' with h1'; injection h1'

structure HRel (σ : Emb) (h : AHeap) (w : World) : Prop where
  old : ∀ b β s, σ b = some (β, s) → b < h.next ∧ β < w.heap.size
  var : ∀ b β s vs, σ b = some (β, s) → h.objs.get b = some (.var vs) → s = 0 ∧ ∃ c, RowAt w β c ∧ VRels σ vs c.toList
  row : ∀ b β s vs k f v, σ b = some (β, s) → h.objs.get b = some (.row vs k f v) → v = (h.fam f).1 →
    ∃ c, RowAt w β c ∧ s + vs.length ≤ c.size ∧ c.size = (σ.kl b).2 ∧ VRels σ vs ((c.toList.drop s).take vs.length)
  rowk : ∀ b x vs k f v, σ b = some x → h.objs.get b = some (.row vs k f v) → (σ.kl b).1 = k
  vark : ∀ b x vs, σ b = some x → h.objs.get b = some (.var vs) → (σ.kl b).1 = 0
  map : ∀ b β s es, σ b = some (β, s) → h.objs.get b = some (.map es) → s = 0 ∧ ∃ ents clock, w.heap[β]? = some (.map ents clock) ∧ ERels σ es ents.toList ∧ MapOk ents.toList clock
  sep : ∀ b b' β s s', σ b = some (β, s) → σ b' = some (β, s') → b = b' ∨ ∃ vs vs' k k' f v v', h.objs.get b = some (.row vs k f v) ∧ h.objs.get b' = some (.row vs' k' f v')
  fresh : ∀ b, h.next ≤ b → h.objs.get b = none
  rowver : ∀ b vs k f v, h.objs.get b = some (.row vs k f v) → f < h.next ∧ v ≤ (h.fam f).1
  rowone : ∀ b vs k f v, h.objs.get b = some (.row vs k f v) → h.fams.get f = none → b = f
  famnext : ∀ f x, h.fams.get f = some x → f < h.next
  tip : ∀ f β st vst kt vt b s vs k v, σ (h.fam f).2 = some (β, st) → h.objs.get (h.fam f).2 = some (.row vst kt f vt) → σ b = some (β, s) →
    h.objs.get b = some (.row vs k f v) → v = (h.fam f).1 → s + vs.length ≤ st + vst.length

structure Step (σ : Emb) (h : AHeap) (w : World) (σ' : Emb) (h' : AHeap) (w' : World) : Prop where
  le : Emb.le σ σ'
  rel : HRel σ' h' w'
  frame : ∀ β, β < w.heap.size → (∀ b s, σ b ≠ some (β, s)) → w'.heap[β]? = w.heap[β]?
  size : w.heap.size ≤ w'.heap.size
  next : h.next ≤ h'.next
  range : ∀ b β s, σ' b = some (β, s) → β < w.heap.size → ∃ b0 s0, σ b0 = some (β, s0)
  newid : ∀ b x, σ' b = some x → σ b = some x ∨ h.next ≤ b
  os : w'.os = w.os
  output : w'.output = w.output

theorem Emb.le_refl (σ : Emb) : Emb.le σ σ := fun _ _ h => ⟨h, rfl⟩
theorem Emb.le_trans {σ τ υ : Emb} (h : Emb.le σ τ) (k : Emb.le τ υ) : Emb.le σ υ := fun b x e => ⟨(k b x (h b x e).1).1, ((k b x (h b x e).1).2).trans (h b x e).2⟩

theorem Step.refl {σ : Emb} {h : AHeap} {w : World} (H : HRel σ h w) : Step σ h w σ h w :=
  ⟨Emb.le_refl σ, H, fun _ _ _ => rfl, Nat.le_refl _, Nat.le_refl _, fun b _ s e _ => ⟨b, s, e⟩, fun _ _ e => .inl e, rfl, rfl⟩

theorem Step.trans {σ σ' σ'' : Emb} {h h' h'' : AHeap} {w w' w'' : World} (A : Step σ h w σ' h' w') (B : Step σ' h' w' σ'' h'' w'') : Step σ h w σ'' h'' w'' where
  le := Emb.le_trans A.le B.le
  rel := B.rel
  frame := fun β hβ hn => by
    rw [B.frame β (Nat.lt_of_lt_of_le hβ A.size) ?_, A.frame β hβ hn]
    intro b s e
    obtain ⟨b0, s0, e0⟩ := A.range b β s e hβ
    exact hn _ _ e0
  size := Nat.le_trans A.size B.size
  next := Nat.le_trans A.next B.next
  range := fun b β s e hβ => by
    obtain ⟨b0, s0, e0⟩ := B.range b β s e (Nat.lt_of_lt_of_le hβ A.size)
    exact A.range _ _ _ e0 hβ
  newid := fun b x e => by
    rcases B.newid b x e with e1 | e1
    · exact A.newid b x e1
    · exact .inr (Nat.le_trans A.next e1)
  os := B.os.trans A.os
  output := B.output.trans A.output

def Emb.ext (σ : Emb) (b : Nat) (x y : Nat × Nat) : Emb := ⟨fun i => if i = b then some x else σ i, fun i => if i = b then y else σ.kl i⟩
theorem Emb.ext_same (σ : Emb) (b : Nat) (x y : Nat × Nat) : σ.ext b x y b = some x := by simp [Emb.ext]
theorem Emb.ext_ne (σ : Emb) {b c : Nat} (x y : Nat × Nat) (h : c ≠ b) : σ.ext b x y c = σ c := by simp [Emb.ext, h]
theorem Emb.kl_same (σ : Emb) (b : Nat) (x y : Nat × Nat) : (σ.ext b x y).kl b = y := by simp [Emb.ext]
theorem Emb.kl_ne (σ : Emb) {b c : Nat} (x y : Nat × Nat) (h : c ≠ b) : (σ.ext b x y).kl c = σ.kl c := by simp [Emb.ext, h]

theorem HRel.next_none {σ : Emb} {h : AHeap} {w : World} (H : HRel σ h w) : σ h.next = none := by
  cases e : σ h.next with
  | none => rfl
  | some x => have := (H.old _ x.1 x.2 e).1; omega
theorem HRel.le_ext {σ : Emb} {h : AHeap} {w : World} (H : HRel σ h w) (x y : Nat × Nat) : Emb.le σ (σ.ext h.next x y) := by
  intro b z e
  by_cases hb : b = h.next
  · subst hb; rw [H.next_none] at e; cases e
  · rw [Emb.ext_ne _ _ _ hb, Emb.kl_ne _ _ _ hb]; exact ⟨e, rfl⟩

/-- worlds that only differ in their draws -/
theorem HRel.drawn {σ : Emb} {h : AHeap} {w w' : World} (H : HRel σ h w) (e : w'.heap = w.heap) : HRel σ h w' := by
  constructor
  · intro b β s hb; rw [e]; exact H.old b β s hb
  · intro b β s vs h1 h2
    obtain ⟨q, c, r, z⟩ := H.var b β s vs h1 h2
    exact ⟨q, c, r.congr (by rw [e]), z⟩
  · intro b β s vs k f v h1 h2 h3
    obtain ⟨c, r, z⟩ := H.row b β s vs k f v h1 h2 h3
    exact ⟨c, r.congr (by rw [e]), z⟩
  · exact H.rowk
  · exact H.vark
  · intro b β s es h1 h2; rw [e]; exact H.map b β s es h1 h2
  · exact H.sep
  · exact H.fresh
  · exact H.rowver
  · exact H.rowone
  · exact H.famnext
  · exact H.tip

theorem Step.drawn {σ : Emb} {h : AHeap} {w w' : World} (H : HRel σ h w) (e : w'.heap = w.heap) (_t : w'.tape = w.tape) (o : w'.os = w.os) (u : w'.output = w.output) : Step σ h w σ h w' :=
  ⟨Emb.le_refl σ, H.drawn e, fun _ _ _ => by rw [e], by rw [e]; exact Nat.le_refl _, Nat.le_refl _, fun b _ s e _ => ⟨b, s, e⟩, fun _ _ e => .inl e, o, u⟩

theorem objs_new (h : AHeap) (o : AObj) (b : Nat) : (h.new o).2.objs.get b = if b = h.next then some o else h.objs.get b := by
  simp only [AHeap.new, Trie.get_set]

/-- what a new object in a new block must be -/
def NewOk (σ : Emb) (h : AHeap) (o : AObj) (x : Obj) : Prop :=
  match o with
  | .var vs => ∃ c el fr, x = .cells c el fr ∧ (fr.2 ≤ fr.1 ∨ c.size ≤ fr.1) ∧ VRels σ vs c.toList
  | .row vs _ f v => f = h.next ∧ v = 0 ∧ ∃ c el fr, x = .cells c el fr ∧ (fr.2 ≤ fr.1 ∨ c.size ≤ fr.1) ∧ vs.length ≤ c.size ∧ VRels σ vs (c.toList.take vs.length)
  | .map es => ∃ ents clock, x = .map ents clock ∧ ERels σ es ents.toList ∧ MapOk ents.toList clock

def newKl (o : AObj) (x : Obj) : Nat × Nat :=
  match o, x with
  | .row _ k _ _, .cells c _ _ => (k, c.size)
  | _, _ => (0, 0)

theorem Step.new {σ : Emb} {h : AHeap} {w : World} (H : HRel σ h w) {o : AObj} {x : Obj} (N : NewOk σ h o x) :
    Step σ h w (σ.ext h.next (w.heap.size, 0) (newKl o x)) (h.new o).2 (w.alloc x) := by
  have le := H.le_ext (w.heap.size, 0) (newKl o x)
  have old' : ∀ b β s, σ.ext h.next (w.heap.size, 0) (newKl o x) b = some (β, s) → (b = h.next ∧ β = w.heap.size ∧ s = 0) ∨ (b < h.next ∧ β < w.heap.size ∧ σ b = some (β, s)) := by
    intro b β s e
    by_cases hb : b = h.next
    · subst hb; rw [Emb.ext_same] at e; injection e with e; injection e with e1 e2; exact .inl ⟨rfl, e1.symm, e2.symm⟩
    · rw [Emb.ext_ne _ _ _ hb] at e; exact .inr ⟨(H.old b β s e).1, (H.old b β s e).2, e⟩
  have heapOld : ∀ β, β < w.heap.size → (w.alloc x).heap[β]? = w.heap[β]? := fun β hβ => by
    simp only [World.alloc, Array.getElem?_push]; rw [if_neg (by omega)]
  have heapNew : (w.alloc x).heap[w.heap.size]? = some x := by show (w.heap.push x)[w.heap.size]? = some x; simp
  have objOld : ∀ b, b < h.next → (h.new o).2.objs.get b = h.objs.get b := fun b hb => by rw [objs_new, if_neg (by omega)]
  have objNew : (h.new o).2.objs.get h.next = some o := by rw [objs_new, if_pos rfl]
  have famS : ∀ f, (h.new o).2.fam f = h.fam f := fun f => rfl
  have famN : h.fams.get h.next = none := by
    cases e : h.fams.get h.next with
    | none => rfl
    | some y => have := H.famnext _ _ e; omega
  refine ⟨le, ?_, fun β hβ _ => heapOld β hβ, by simp, by simp [AHeap.new], ?_, ?_, rfl, rfl⟩
  · constructor
    · intro b β s e
      rcases old' b β s e with ⟨rfl, rfl, rfl⟩ | ⟨h1, h2, _⟩
      · simp [AHeap.new]
      · simp [AHeap.new]; omega
    · intro b β s vs e ho
      rcases old' b β s e with ⟨rfl, rfl, rfl⟩ | ⟨h1, h2, e'⟩
      · rw [objNew] at ho; injection ho with ho; subst ho
        obtain ⟨c, el, fr, rfl, hfr, hc⟩ := N
        exact ⟨rfl, c, ⟨el, fr, heapNew, hfr⟩, hc.mono le⟩
      · rw [objOld b h1] at ho
        obtain ⟨hs, c, hc, hv⟩ := H.var b β s vs e' ho
        exact ⟨hs, c, hc.congr (heapOld β h2), hv.mono le⟩
    · intro b β s vs k f v e ho hv
      rcases old' b β s e with ⟨rfl, rfl, rfl⟩ | ⟨h1, h2, e'⟩
      · rw [objNew] at ho; injection ho with ho; subst ho
        obtain ⟨_, _, c, el, fr, rfl, hfr, hl, hc⟩ := N
        exact ⟨c, ⟨el, fr, heapNew, hfr⟩, by omega, by rw [Emb.kl_same]; rfl, by simpa using hc.mono le⟩
      · rw [objOld b h1] at ho
        obtain ⟨c, hc, hl, hk, hv'⟩ := H.row b β s vs k f v e' ho hv
        exact ⟨c, hc.congr (heapOld β h2), hl, by rw [Emb.kl_ne _ _ _ (by omega)]; exact hk, hv'.mono le⟩
    · intro b y vs k f v e ho
      rcases old' b y.1 y.2 e with ⟨rfl, _, _⟩ | ⟨h1, h2, e'⟩
      · rw [objNew] at ho; injection ho with ho; subst ho
        obtain ⟨_, _, c, el, fr, rfl, _⟩ := N
        rw [Emb.kl_same]; rfl
      · rw [objOld b h1] at ho
        rw [Emb.kl_ne _ _ _ (by omega)]; exact H.rowk b _ vs k f v e' ho
    · intro b y vs e ho
      rcases old' b y.1 y.2 e with ⟨rfl, _, _⟩ | ⟨h1, h2, e'⟩
      · rw [objNew] at ho; injection ho with ho; subst ho
        rw [Emb.kl_same]; rfl
      · rw [objOld b h1] at ho
        rw [Emb.kl_ne _ _ _ (by omega)]; exact H.vark b _ vs e' ho
    · intro b β s es e ho
      rcases old' b β s e with ⟨rfl, rfl, rfl⟩ | ⟨h1, h2, e'⟩
      · rw [objNew] at ho; injection ho with ho; subst ho
        obtain ⟨ents, clock, rfl, he, hm⟩ := N
        exact ⟨rfl, ents, clock, heapNew, he.mono le, hm⟩
      · rw [objOld b h1] at ho
        obtain ⟨hs, ents, clock, hc, he, hm⟩ := H.map b β s es e' ho
        exact ⟨hs, ents, clock, by rw [heapOld β h2]; exact hc, he.mono le, hm⟩
    · intro b b' β s s' e e'
      rcases old' b β s e with ⟨rfl, rfl, rfl⟩ | ⟨h1, h2, e1⟩ <;> rcases old' b' _ s' e' with ⟨rfl, h3, rfl⟩ | ⟨h1', h2', e1'⟩
      · exact .inl rfl
      · omega
      · omega
      · rw [objOld b h1, objOld b' h1']
        exact H.sep b b' β s s' e1 e1'
    · intro b hb
      have hb' : h.next + 1 ≤ b := hb
      rw [objs_new, if_neg (by omega)]; exact H.fresh b (by omega)
    · intro b vs k f v ho
      rw [objs_new] at ho
      by_cases hb : b = h.next
      · rw [if_pos hb] at ho; injection ho with ho; subst ho
        obtain ⟨rfl, rfl, _⟩ := N
        exact ⟨by simp [AHeap.new], Nat.zero_le _⟩
      · rw [if_neg hb] at ho
        have := H.rowver b vs k f v ho
        exact ⟨by simp [AHeap.new]; omega, this.2⟩
    · intro b vs k f v ho hf
      rw [objs_new] at ho
      by_cases hb : b = h.next
      · rw [if_pos hb] at ho; injection ho with ho; subst ho
        obtain ⟨rfl, rfl, _⟩ := N
        exact hb
      · rw [if_neg hb] at ho
        exact H.rowone b vs k f v ho hf
    · intro f y e
      have := H.famnext f y e
      simp [AHeap.new]; omega
    · intro f β st vst kt vt b s vs k v e1 ho1 e2 ho2 hv
      rw [famS] at e1 ho1 hv
      by_cases hf : f = h.next
      · subst hf
        have ef : h.fam h.next = (0, h.next) := by unfold AHeap.fam; rw [famN]
        rw [ef] at e1 ho1
        dsimp only at e1 ho1
        by_cases hb : b = h.next
        · subst hb
          rw [e1] at e2; injection e2 with e2; injection e2 with _ e2
          rw [ho1] at ho2; injection ho2 with ho2; injection ho2 with ho2
          subst ho2; omega
        · rw [objs_new, if_neg hb] at ho2
          have := (H.rowver b vs _ _ v ho2).1; omega
      · rcases old' _ β st e1 with ⟨h1, _⟩ | ⟨h1, h2, e1'⟩
        · rw [h1, objNew] at ho1; injection ho1 with ho1; subst ho1
          obtain ⟨rfl, _⟩ := N
          exact absurd rfl hf
        · rcases old' b β s e2 with ⟨h3, h4, _⟩ | ⟨h3, h4, e2'⟩
          · omega
          · rw [objOld _ h1] at ho1
            rw [objOld b h3] at ho2
            exact H.tip f β st vst kt vt b s vs k v e1' ho1 e2' ho2 hv
  · intro b β s e hβ
    rcases old' b β s e with ⟨_, rfl, _⟩ | ⟨_, _, e'⟩
    · omega
    · exact ⟨b, s, e'⟩
  · intro b y e
    by_cases hb : b = h.next
    · exact .inr (by omega)
    · rw [Emb.ext_ne _ _ _ hb] at e; exact .inl e

end Go.AM
