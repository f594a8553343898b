import Derived.Test.YtjiphiegpfleeaaGreatDoorRAmTab2
import Derived.Laws.IdiomRangeMap
namespace Go.AM

/-! summaries: what they need of heaps -/
theorem HRel.more {σ : Emb} {h : AHeap} {w w' : World} (H : HRel σ h w) (e : ∀ β, β < w.heap.size → w'.heap[β]? = w.heap[β]?) (hs : w.heap.size ≤ w'.heap.size) : HRel σ h w' := by
  constructor
  · intro b β s hb; obtain ⟨h1, h2⟩ := H.old b β s hb; exact ⟨h1, by omega⟩
  · intro b β s vs h1 h2
    obtain ⟨q, c, r, z⟩ := H.var b β s vs h1 h2
    exact ⟨q, c, r.congr (e β r.lt), z⟩
  · intro b β s vs k f v h1 h2 h3
    obtain ⟨c, r, z⟩ := H.row b β s vs k f v h1 h2 h3
    exact ⟨c, r.congr (e β r.lt), z⟩
  · exact H.rowk
  · exact H.vark
  · intro b β s es h1 h2
    obtain ⟨q, ents, clock, r, z⟩ := H.map b β s es h1 h2
    have hl : β < w.heap.size := (H.old b β s h1).2
    exact ⟨q, ents, clock, by rw [e β hl]; exact r, z⟩
  · exact H.sep
  · exact H.fresh
  · exact H.rowver
  · exact H.rowone
  · exact H.famnext
  · exact H.tip

theorem Step.more {σ : Emb} {h : AHeap} {w w' : World} (H : HRel σ h w) (e : ∀ β, β < w.heap.size → w'.heap[β]? = w.heap[β]?) (hs : w.heap.size ≤ w'.heap.size)
    (o : w'.os = w.os) (u : w'.output = w.output) : Step σ h w σ h w' :=
  ⟨Emb.le_refl σ, H.more e hs, fun β hβ _ => e β hβ, hs, Nat.le_refl _, fun b _ s e _ => ⟨b, s, e⟩, fun _ _ e => .inl e, o, u⟩

/-- a block of a call's own becomes an object -/
theorem Step.adopt {σ : Emb} {h : AHeap} {w w' : World} (H : HRel σ h w) {o : AObj} {x : Obj} (N : NewOk σ h o x) {g : Nat} (hg : w.heap.size ≤ g) (heapNew : w'.heap[g]? = some x)
    (heapOld : ∀ β, β < w.heap.size → w'.heap[β]? = w.heap[β]?) (hsz : w.heap.size ≤ w'.heap.size) (hos : w'.os = w.os) (hout : w'.output = w.output) :
    Step σ h w (σ.ext h.next (g, 0) (newKl o x)) (h.new o).2 w' := by
  have hgl : g < w'.heap.size := by
    rcases Nat.lt_or_ge g w'.heap.size with h' | h'
    · exact h'
    · rw [Array.getElem?_eq_none h'] at heapNew; cases heapNew
  have le := H.le_ext (g, 0) (newKl o x)
  have old' : ∀ b β s, σ.ext h.next (g, 0) (newKl o x) b = some (β, s) → (b = h.next ∧ β = g ∧ s = 0) ∨ (b < h.next ∧ β < w.heap.size ∧ σ b = some (β, s)) := by
    intro b β s e
    by_cases hb : b = h.next
    · subst hb; rw [Emb.ext_same] at e; injection e with e; injection e with e1 e2; exact .inl ⟨rfl, e1.symm, e2.symm⟩
    · rw [Emb.ext_ne _ _ _ hb] at e; exact .inr ⟨(H.old b β s e).1, (H.old b β s e).2, e⟩
  have objOld : ∀ b, b < h.next → (h.new o).2.objs.get b = h.objs.get b := fun b hb => by rw [objs_new, if_neg (by omega)]
  have objNew : (h.new o).2.objs.get h.next = some o := by rw [objs_new, if_pos rfl]
  have famS : ∀ f, (h.new o).2.fam f = h.fam f := fun f => rfl
  have famN : h.fams.get h.next = none := by
    cases e : h.fams.get h.next with
    | none => rfl
    | some y => have := H.famnext _ _ e; omega
  refine ⟨le, ?_, fun β hβ _ => heapOld β hβ, hsz, by simp [AHeap.new], ?_, ?_, hos, hout⟩
  · constructor
    · intro b β s e
      rcases old' b β s e with ⟨rfl, rfl, rfl⟩ | ⟨h1, h2, _⟩
      · exact ⟨by simp [AHeap.new], hgl⟩
      · exact ⟨by simp [AHeap.new]; omega, by omega⟩
    · intro b β s vs e ho
      rcases old' b β s e with ⟨rfl, rfl, rfl⟩ | ⟨h1, h2, e'⟩
      · rw [objNew] at ho; injection ho with ho; subst ho
        obtain ⟨c, el, fr, rfl, hfr, hc⟩ := N
        exact ⟨rfl, c, ⟨el, fr, heapNew, hfr⟩, hc.mono le⟩
      · rw [objOld b h1] at ho
        obtain ⟨hs, c, hc, hv⟩ := H.var b β s vs e' ho
        exact ⟨hs, c, hc.congr (heapOld β h2), hv.mono le⟩
    · intro b β s vs k f v e ho hv
      rcases old' b β s e with ⟨rfl, rfl, rfl⟩ | ⟨h1, h2, e'⟩
      · rw [objNew] at ho; injection ho with ho; subst ho
        obtain ⟨_, _, c, el, fr, rfl, hfr, hl, hc⟩ := N
        exact ⟨c, ⟨el, fr, heapNew, hfr⟩, by omega, by rw [Emb.kl_same]; rfl, by simpa using hc.mono le⟩
      · rw [objOld b h1] at ho
        obtain ⟨c, hc, hl, hk, hv'⟩ := H.row b β s vs k f v e' ho hv
        exact ⟨c, hc.congr (heapOld β h2), hl, by rw [Emb.kl_ne _ _ _ (by omega)]; exact hk, hv'.mono le⟩
    · intro b y vs k f v e ho
      rcases old' b y.1 y.2 e with ⟨rfl, _, _⟩ | ⟨h1, h2, e'⟩
      · rw [objNew] at ho; injection ho with ho; subst ho
        obtain ⟨_, _, c, el, fr, rfl, _⟩ := N
        rw [Emb.kl_same]; rfl
      · rw [objOld b h1] at ho
        rw [Emb.kl_ne _ _ _ (by omega)]; exact H.rowk b _ vs k f v e' ho
    · intro b y vs e ho
      rcases old' b y.1 y.2 e with ⟨rfl, _, _⟩ | ⟨h1, h2, e'⟩
      · rw [objNew] at ho; injection ho with ho; subst ho
        rw [Emb.kl_same]; rfl
      · rw [objOld b h1] at ho
        rw [Emb.kl_ne _ _ _ (by omega)]; exact H.vark b _ vs e' ho
    · intro b β s es e ho
      rcases old' b β s e with ⟨rfl, rfl, rfl⟩ | ⟨h1, h2, e'⟩
      · rw [objNew] at ho; injection ho with ho; subst ho
        obtain ⟨ents, clock, rfl, he, hm⟩ := N
        exact ⟨rfl, ents, clock, heapNew, he.mono le, hm⟩
      · rw [objOld b h1] at ho
        obtain ⟨hs, ents, clock, hc, he, hm⟩ := H.map b β s es e' ho
        exact ⟨hs, ents, clock, by rw [heapOld β h2]; exact hc, he.mono le, hm⟩
    · intro b b' β s s' e e'
      rcases old' b β s e with ⟨rfl, rfl, rfl⟩ | ⟨h1, h2, e1⟩ <;> rcases old' b' _ s' e' with ⟨rfl, h3, rfl⟩ | ⟨h1', h2', e1'⟩
      · exact .inl rfl
      · omega
      · omega
      · rw [objOld b h1, objOld b' h1']
        exact H.sep b b' β s s' e1 e1'
    · intro b hb
      have hb' : h.next + 1 ≤ b := hb
      rw [objs_new, if_neg (by omega)]; exact H.fresh b (by omega)
    · intro b vs k f v ho
      rw [objs_new] at ho
      by_cases hb : b = h.next
      · rw [if_pos hb] at ho; injection ho with ho; subst ho
        obtain ⟨rfl, rfl, _⟩ := N
        exact ⟨by simp [AHeap.new], Nat.zero_le _⟩
      · rw [if_neg hb] at ho
        have := H.rowver b vs k f v ho
        exact ⟨by simp [AHeap.new]; omega, this.2⟩
    · intro b vs k f v ho hf
      rw [objs_new] at ho
      by_cases hb : b = h.next
      · rw [if_pos hb] at ho; injection ho with ho; subst ho
        obtain ⟨rfl, rfl, _⟩ := N
        exact hb
      · rw [if_neg hb] at ho
        exact H.rowone b vs k f v ho hf
    · intro f y e
      have := H.famnext f y e
      simp [AHeap.new]; omega
    · intro f β st vst kt vt b s vs k v e1 ho1 e2 ho2 hv
      rw [famS] at e1 ho1 hv
      by_cases hf : f = h.next
      · subst hf
        have ef : h.fam h.next = (0, h.next) := by unfold AHeap.fam; rw [famN]
        rw [ef] at e1 ho1
        dsimp only at e1 ho1
        by_cases hb : b = h.next
        · subst hb
          rw [e1] at e2; injection e2 with e2; injection e2 with _ e2
          rw [ho1] at ho2; injection ho2 with ho2; injection ho2 with ho2
          subst ho2; omega
        · rw [objs_new, if_neg hb] at ho2
          have := (H.rowver b vs _ _ v ho2).1; omega
      · rcases old' _ β st e1 with ⟨h1, _⟩ | ⟨h1, h2, e1'⟩
        · rw [h1, objNew] at ho1; injection ho1 with ho1; subst ho1
          obtain ⟨rfl, _⟩ := N
          exact absurd rfl hf
        · rcases old' b β s e2 with ⟨h3, h4, _⟩ | ⟨h3, h4, e2'⟩
          · omega
          · rw [objOld _ h1] at ho1
            rw [objOld b h3] at ho2
            exact H.tip f β st vst kt vt b s vs k v e1' ho1 e2' ho2 hv
  · intro b β s e hβ
    rcases old' b β s e with ⟨_, rfl, _⟩ | ⟨_, _, e'⟩
    · omega
    · exact ⟨b, s, e'⟩
  · intro b y e
    by_cases hb : b = h.next
    · exact .inr (by omega)
    · rw [Emb.ext_ne _ _ _ hb] at e; exact .inl e


theorem cell_rel {σ : Emb} {h : AHeap} {w : World} (H : HRel σ h w) {b β s off : Nat} {cs : List Value} {v : Value} (hb : σ b = some (β, s)) (hc : h.cells b = some cs) (hn : nth cs off = some v) :
    ∃ v', w.cell? ⟨β, s + off, none⟩ = some v' ∧ VRel σ v v' := by
  rw [nth_eq] at hn
  unfold AHeap.cells at hc
  split at hc
  · rename_i vs ho
    injection hc with hc; subst hc
    obtain ⟨rfl, c, r, z⟩ := H.var b β s _ hb ho
    obtain ⟨v', h1, h2⟩ := z.get _ _ hn
    refine ⟨v', ?_, h2⟩
    rw [r.cell]
    simpa using h1
  · rename_i vs k f u ho
    cases hv : Nat.beq u (h.fam f).1 with
    | false => rw [hv] at hc; cases hc
    | true =>
      rw [hv] at hc
      simp only [cond_true, Option.some.injEq] at hc; subst hc
      obtain ⟨c, r, hle, _, z⟩ := H.row b β s _ k f u hb ho (Nat.eq_of_beq_eq_true hv)
      obtain ⟨v', h1, h2⟩ := z.get _ _ hn
      refine ⟨v', ?_, h2⟩
      rw [r.cell]
      have hlt : off < vs.length := by
        rcases Nat.lt_or_ge off vs.length with h' | h'
        · exact h'
        · rw [List.getElem?_eq_none h'] at hn; cases hn
      rw [List.getElem?_take_of_lt hlt, List.getElem?_drop] at h1
      simpa using h1
  · cases hc

theorem map_rel {σ : Emb} {h : AHeap} {w : World} (H : HRel σ h w) {r ρ s : Nat} {es : List (Value × Value)} (hb : σ r = some (ρ, s)) (hm : mapOf h (.map (some r)) = some es) :
    ∃ ents clock, w.heap[ρ]? = some (.map ents clock) ∧ ERels σ es ents.toList ∧ MapOk ents.toList clock := by
  simp only [mapOf] at hm
  split at hm
  · rename_i es' ho
    injection hm with hm; subst hm
    obtain ⟨_, ents, clock, h1, h2, h3⟩ := H.map r ρ s _ hb ho
    exact ⟨ents, clock, h1, h2, h3⟩
  · cases hm

theorem ERels.mem {σ : Emb} : ∀ {l : List (Value × Value)} {l' : List MapEntry}, ERels σ l l' → ∀ e ∈ l', ∃ k v, (k, v) ∈ l ∧ VRel σ k e.key ∧ VRel σ v e.val
  | _, _, .nil, e, he => by cases he
  | _, _, .cons hk hv t, e, he => by
    rcases List.mem_cons.1 he with rfl | he
    · exact ⟨_, _, List.mem_cons.2 (.inl rfl), hk, hv⟩
    · obtain ⟨k, v, h1, h2⟩ := t.mem e he
      exact ⟨k, v, List.mem_cons.2 (.inr h1), h2⟩

/-- the stamps of entries that have been handed out, each with a number, added up -/
def sumSeen (g : MapEntry → Nat) : List MapEntry → Array Nat → Nat
  | [], _ => 0
  | x :: l, seen => (if seen.contains x.born then g x else 0) + sumSeen g l seen

theorem sumSeen_other (g : MapEntry → Nat) (seen : Array Nat) (b : Nat) : ∀ (es : List MapEntry), b ∉ es.map (·.born) → sumSeen g es (seen.push b) = sumSeen g es seen
  | [], _ => rfl
  | x :: l, h => by
    have hx : (x.born == b) = false := by
      cases hc : x.born == b with
      | false => rfl
      | true => exact absurd (List.mem_cons.2 (Or.inl (beq_iff_eq.1 hc).symm)) h
    have ih := sumSeen_other g seen b l (fun e => h (List.mem_cons.2 (Or.inr e)))
    simp only [sumSeen, contains_push, hx, Bool.or_false, ih]

theorem sumSeen_push (g : MapEntry → Nat) (seen : Array Nat) (e : MapEntry) (hs : seen.contains e.born = false) : ∀ (es : List MapEntry), (es.map (·.born)).Nodup → e ∈ es → sumSeen g es (seen.push e.born) = sumSeen g es seen + g e
  | x :: l, hn, he => by
    have hn' : x.born ∉ l.map (·.born) ∧ (l.map (·.born)).Nodup := List.nodup_cons.1 hn
    rcases List.mem_cons.1 he with rfl | h
    · simp only [sumSeen, contains_push, hs, beq_self_eq_true, Bool.or_true, if_true, Bool.false_eq_true, if_false, sumSeen_other g seen e.born l hn'.1]
      omega
    · have hx : (x.born == e.born) = false := by
        cases hc : x.born == e.born with
        | false => rfl
        | true => exact absurd (by rw [beq_iff_eq.1 hc]; exact List.mem_map.2 ⟨e, h, rfl⟩) hn'.1
      simp only [sumSeen, contains_push, hx, Bool.or_false, sumSeen_push g seen e hs l hn'.2 h]
      omega

theorem sumSeen_le (g : MapEntry → Nat) (seen : Array Nat) : ∀ (es : List MapEntry), sumSeen g es seen ≤ (es.map g).sum
  | [] => Nat.le_refl _
  | x :: l => by
    have ih := sumSeen_le g seen l
    simp only [sumSeen, List.map_cons, List.sum_cons]
    split <;> omega

theorem sumSeen_none (g : MapEntry → Nat) : ∀ (es : List MapEntry), sumSeen g es #[] = 0
  | [] => rfl
  | x :: l => by
    have : (#[] : Array Nat).contains x.born = false := by simp
    simp only [sumSeen, this, Bool.false_eq_true, if_false, sumSeen_none g l]

theorem sumSeen_full (g : MapEntry → Nat) (seen : Array Nat) : ∀ (es : List MapEntry), (∀ x ∈ es, seen.contains x.born = true) → sumSeen g es seen = (es.map g).sum
  | [], _ => rfl
  | x :: l, h => by
    simp only [sumSeen, h x (List.mem_cons.2 (Or.inl rfl)), if_true, List.map_cons, List.sum_cons, sumSeen_full g seen l (fun y hy => h y (List.mem_cons.2 (Or.inr hy)))]

theorem MapOk.nodup {l : List MapEntry} {c : Nat} (h : MapOk l c) : (l.map (·.born)).Nodup := by
  have := h.rise
  exact this.imp (fun h => Nat.ne_of_lt h)

/-! how many bytes all files have -/
def lenOf (h : AHeap) (v : Value) : Option Nat :=
  match v with
  | .pointer (some p) => match h.cells p.block with
    | some cs => match nth cs p.off with
      | some (.slice _ k _) => some k
      | _ => none
    | none => none
  | _ => none
def lensOf (h : AHeap) : List (Value × Value) → Option Nat
  | [] => some 0
  | (_, v) :: es => match lenOf h v, lensOf h es with
    | some k, some n => some (k + n)
    | _, _ => none
def sumUsed (args : List Value) (h : AHeap) : Option (Value × AHeap) :=
  match args with
  | [.pointer (some a)] => match h.cells a.block with
    | some cs => match nth cs (a.off + 1) with
      | some (.map (some r)) => match mapOf h (.map (some r)) with
        | some es => match lensOf h es with
          | some n => bif Nat.blt n 4611686018427387904 then some (.int .i64 (Int.ofNat n), h) else none
          | none => none
        | none => none
      | _ => none
    | none => none
  | _ => none

theorem lenOf_rel {σ : Emb} {h : AHeap} {w : World} (H : HRel σ h w) {v v' : Value} {k : Nat} (hv : VRel σ v v') (hl : lenOf h v = some k) :
    ∃ p base cap, v' = .pointer (some p) ∧ p.spot = none ∧ p.block < w.heap.size ∧ w.cell? p = some (.slice base k cap) := by
  unfold lenOf at hl
  split at hl
  · split at hl
    · rename_i p cs hcs
      split at hl
      · rename_i b k' c hn
        injection hl with hl; subst hl
        cases hv with
        | ptr off hb =>
          obtain ⟨u, h1, h2⟩ := cell_rel H hb hcs hn
          have hlt := (H.old _ _ _ hb).2
          cases h2 with
          | nilSlice => exact ⟨_, _, _, rfl, rfl, hlt, h1⟩
          | slice _ _ _ _ => exact ⟨_, _, _, rfl, rfl, hlt, h1⟩
          | tight _ => exact ⟨_, _, _, rfl, rfl, hlt, h1⟩
      · cases hl
    · cases hl
  · cases hl

/-- an entry's number -/
def entLen (w : World) (e : MapEntry) : Nat := match e.val with | .pointer (some p) => (match w.cell? p with | some (.slice _ k _) => k | _ => 0) | _ => 0

theorem lensOf_rel {σ : Emb} {h : AHeap} {w : World} (H : HRel σ h w) : ∀ {l : List (Value × Value)} {l' : List MapEntry} {n : Nat}, ERels σ l l' → lensOf h l = some n →
    (l'.map (entLen w)).sum = n ∧ ∀ e ∈ l', ∃ p base cap, e.val = .pointer (some p) ∧ p.spot = none ∧ p.block < w.heap.size ∧ w.cell? p = some (.slice base (entLen w e) cap)
  | _, _, n, .nil, hl => by
    simp only [lensOf, Option.some.injEq] at hl; subst hl
    exact ⟨rfl, fun e he => by cases he⟩
  | _, _, n, .cons (e := e) hk hv t, hl => by
    simp only [lensOf] at hl
    split at hl
    · rename_i k m hk' hm
      injection hl with hl; subst hl
      obtain ⟨h1, h2⟩ := lensOf_rel H t hm
      obtain ⟨p, base, cap, q1, q2, q3, q4⟩ := lenOf_rel H hv hk'
      have e1 : entLen w e = k := by unfold entLen; rw [q1]; simp only [q4]
      refine ⟨by simp only [List.map_cons, List.sum_cons, h1, e1], fun x hx => ?_⟩
      rcases List.mem_cons.1 hx with rfl | hx
      · exact ⟨p, base, cap, q1, q2, q3, by rw [e1]; exact q4⟩
      · exact h2 x hx
    · cases hl
end Go.AM
