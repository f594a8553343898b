import Derived.Test.YtjiphiegpfleeaaGreatDoorRAmWrite
namespace Go.AM

/-- a row that is appended to: the new row lies in the same block, or in a new one -/
theorem Step.append {σ : Emb} {h : AHeap} {w w2 : World} (H : HRel σ h w) {b β s k f v v' β1 s1 lim : Nat} {vs r : List Value} {c1 : Array Value}
    (hb : σ b = some (β, s)) (ho : h.objs.get b = some (.row vs k f v)) (hv : v = (h.fam f).1)
    (hv' : (v' = v ∧ (h.fam f).2 = b) ∨ v' = v + 1)
    (hc1 : RowAt w2 β1 c1) (hl1 : s1 + r.length ≤ c1.size) (hk2 : c1.size = lim) (hr : VRels σ r ((c1.toList.drop s1).take r.length))
    (hsize : w.heap.size ≤ w2.heap.size)
    (hother : ∀ β', β' ≠ β → β' < w.heap.size → w2.heap[β']? = w.heap[β']?)
    (hplace : (β1 = β ∧ (v' = v → s + vs.length ≤ s1 + r.length)) ∨ β1 = w.heap.size ∧ w2.heap.size = w.heap.size + 1)
    (hkeep : v' = v → ∀ b0 s0 vs0 k0, σ b0 = some (β, s0) → h.objs.get b0 = some (.row vs0 k0 f v) → s0 + vs0.length ≤ s + vs.length →
      ∃ c, RowAt w2 β c ∧ s0 + vs0.length ≤ c.size ∧ c.size = (σ.kl b0).2 ∧ VRels σ vs0 ((c.toList.drop s0).take vs0.length))
    (_t2 : w2.tape = w.tape) (o2 : w2.os = w.os) (u2 : w2.output = w.output) :
    Step σ h w (σ.ext h.next (β1, s1) (k, lim)) ⟨h.objs.set (.row r k f v') h.next, h.next + 1, h.fams.set (v', h.next) f⟩ w2 := by
  have le := H.le_ext (β1, s1) (k, lim)
  have hβ := (H.old b β s hb).2
  have hbn := (H.old b β s hb).1
  have hfn := (H.rowver b vs k f v ho).1
  generalize hh : (⟨h.objs.set (.row r k f v') h.next, h.next + 1, h.fams.set (v', h.next) f⟩ : AHeap) = h2
  have hnext : h2.next = h.next + 1 := by rw [← hh]
  have hobjs : ∀ b0, h2.objs.get b0 = if b0 = h.next then some (.row r k f v') else h.objs.get b0 := fun b0 => by rw [← hh]; simp only [Trie.get_set]
  have hfams : ∀ f0, h2.fams.get f0 = if f0 = f then some (v', h.next) else h.fams.get f0 := fun f0 => by rw [← hh]; simp only [Trie.get_set]
  have hfamf : h2.fam f = (v', h.next) := by unfold AHeap.fam; rw [hfams, if_pos rfl]
  have hfamo : ∀ f0, f0 ≠ f → h2.fam f0 = h.fam f0 := fun f0 hf => by unfold AHeap.fam; rw [hfams, if_neg hf]
  have objOld : ∀ b0, b0 ≠ h.next → h2.objs.get b0 = h.objs.get b0 := fun b0 hb => by rw [hobjs, if_neg hb]
  have objNew : h2.objs.get h.next = some (.row r k f v') := by rw [hobjs, if_pos rfl]
  have hβ1 : β1 < w2.heap.size := hc1.lt
  have old' : ∀ b0 β0 s0, σ.ext h.next (β1, s1) (k, lim) b0 = some (β0, s0) → (b0 = h.next ∧ β0 = β1 ∧ s0 = s1) ∨ (b0 ≠ h.next ∧ b0 < h.next ∧ β0 < w.heap.size ∧ σ b0 = some (β0, s0)) := by
    intro b0 β0 s0 e
    by_cases hb : b0 = h.next
    · subst hb; rw [Emb.ext_same] at e; injection e with e; injection e with e1 e2; exact .inl ⟨rfl, e1.symm, e2.symm⟩
    · rw [Emb.ext_ne _ _ _ hb] at e; exact .inr ⟨hb, (H.old b0 β0 s0 e).1, (H.old b0 β0 s0 e).2, e⟩
  -- who shares the block
  have share : ∀ b0 s0, σ b0 = some (β, s0) → ∃ vs0 k0 v0, h.objs.get b0 = some (.row vs0 k0 f v0) := by
    intro b0 s0 e
    rcases H.sep b b0 β s s0 hb e with rfl | ⟨_, vs1, _, k1, f1, _, v1, h1, h2⟩
    · exact ⟨vs, k, v, ho⟩
    · rw [ho] at h1; injection h1 with h1; injection h1 with _ _ h1 _; subst h1
      exact ⟨vs1, k1, v1, h2⟩
  refine ⟨le, ?_, ?_, hsize, by omega, ?_, ?_, o2, u2⟩
  · constructor
    · intro b0 β0 s0 e
      rcases old' b0 β0 s0 e with ⟨rfl, rfl, rfl⟩ | ⟨_, h1, h2, _⟩
      · exact ⟨by omega, hβ1⟩
      · exact ⟨by omega, by omega⟩
    · intro b0 β0 s0 vs0 e ho0
      rcases old' b0 β0 s0 e with ⟨rfl, rfl, rfl⟩ | ⟨hne, h1, h2, e'⟩
      · rw [objNew] at ho0; cases ho0
      · rw [objOld b0 hne] at ho0
        obtain ⟨hs0, c0, hc0, hr0⟩ := H.var b0 β0 s0 vs0 e' ho0
        refine ⟨hs0, c0, hc0.congr (hother β0 ?_ h2), hr0.mono le⟩
        rintro rfl
        obtain ⟨_, _, _, k⟩ := share b0 s0 e'
        rw [ho0] at k; cases k
    · intro b0 β0 s0 vs0 k0 f0 v0 e ho0 hv0
      rcases old' b0 β0 s0 e with ⟨rfl, rfl, rfl⟩ | ⟨hne, h1, h2, e'⟩
      · rw [objNew] at ho0; injection ho0 with ho0; injection ho0 with g1 g2 g3 g4; subst g1
        exact ⟨c1, hc1, hl1, by rw [Emb.kl_same]; exact hk2, hr.mono le⟩
      · rw [objOld b0 hne] at ho0
        by_cases hf : f0 = f
        · subst hf
          rw [hfamf] at hv0
          have hvle := (H.rowver b0 vs0 k0 f0 v0 ho0).2
          dsimp only at hv0
          have hvv : v' = v := by
            rcases hv' with h' | h'
            · exact h'.1
            · omega
          have hv0' : v0 = (h.fam f0).1 := by omega
          by_cases hββ : β0 = β
          · subst hββ
            have htip : (h.fam f0).2 = b := by
              rcases hv' with h' | h'
              · exact h'.2
              · omega
            have := H.tip f0 β0 s vs k v b0 s0 vs0 k0 v0 (by rw [htip]; exact hb) (by rw [htip]; exact ho) e' ho0 hv0'
            obtain ⟨c, q1, q2, q3, q4⟩ := hkeep hvv b0 s0 vs0 k0 e' (by rw [hv, ← hv0']; exact ho0) this
            exact ⟨c, q1, q2, by rw [Emb.kl_ne _ _ _ hne]; exact q3, q4.mono le⟩
          · obtain ⟨c0, hc0, hl0, hk0, hr0⟩ := H.row b0 β0 s0 vs0 k0 f0 v0 e' ho0 hv0'
            exact ⟨c0, hc0.congr (hother β0 hββ h2), hl0, by rw [Emb.kl_ne _ _ _ hne]; exact hk0, hr0.mono le⟩
        · rw [hfamo f0 hf] at hv0
          have hββ : β0 ≠ β := by
            rintro rfl
            obtain ⟨_, _, _, k⟩ := share b0 s0 e'
            rw [ho0] at k; injection k with k; injection k with _ _ k _; exact hf k
          obtain ⟨c0, hc0, hl0, hk0, hr0⟩ := H.row b0 β0 s0 vs0 k0 f0 v0 e' ho0 hv0
          exact ⟨c0, hc0.congr (hother β0 hββ h2), hl0, by rw [Emb.kl_ne _ _ _ hne]; exact hk0, hr0.mono le⟩
    · intro b0 x0 vs0 k0 f0 v0 e ho0
      rcases old' b0 x0.1 x0.2 e with ⟨rfl, _, _⟩ | ⟨hne, h1, h2, e'⟩
      · rw [objNew] at ho0; injection ho0 with ho0; injection ho0 with _ g2 _ _
        rw [Emb.kl_same]; exact g2
      · rw [objOld b0 hne] at ho0
        rw [Emb.kl_ne _ _ _ hne]; exact H.rowk b0 _ vs0 k0 f0 v0 e' ho0
    · intro b0 x0 vs0 e ho0
      rcases old' b0 x0.1 x0.2 e with ⟨rfl, _, _⟩ | ⟨hne, h1, h2, e'⟩
      · rw [objNew] at ho0; cases ho0
      · rw [objOld b0 hne] at ho0
        rw [Emb.kl_ne _ _ _ hne]; exact H.vark b0 _ vs0 e' ho0
    · intro b0 β0 s0 es e ho0
      rcases old' b0 β0 s0 e with ⟨rfl, rfl, rfl⟩ | ⟨hne, h1, h2, e'⟩
      · rw [objNew] at ho0; cases ho0
      · rw [objOld b0 hne] at ho0
        obtain ⟨hs0, en, cl, hc0, hr0, hm0⟩ := H.map b0 β0 s0 es e' ho0
        refine ⟨hs0, en, cl, ?_, hr0.mono le, hm0⟩
        rw [hother β0 ?_ h2]; exact hc0
        rintro rfl
        obtain ⟨_, _, _, k⟩ := share b0 s0 e'
        rw [ho0] at k; cases k
    · intro b0 b1 β0 s0 s1' e0 e1
      rcases old' b0 β0 s0 e0 with ⟨rfl, g1, g2⟩ | ⟨hne, h1, h2, e0'⟩ <;> rcases old' b1 β0 s1' e1 with ⟨rfl, g3, g4⟩ | ⟨hne1, h3, h4, e1'⟩
      · exact .inl rfl
      · rcases hplace with ⟨hp, _⟩ | ⟨hp, _⟩
        · rw [g1, hp] at e1'
          obtain ⟨vs0, k0, v0, q⟩ := share b1 s1' e1'
          exact .inr ⟨_, _, _, _, f, _, _, objNew, by rw [objOld b1 hne1]; exact q⟩
        · omega
      · rcases hplace with ⟨hp, _⟩ | ⟨hp, _⟩
        · rw [g3, hp] at e0'
          obtain ⟨vs0, k0, v0, q⟩ := share b0 s0 e0'
          exact .inr ⟨_, _, _, _, f, _, _, by rw [objOld b0 hne]; exact q, objNew⟩
        · omega
      · rw [objOld b0 hne, objOld b1 hne1]
        exact H.sep b0 b1 β0 s0 s1' e0' e1'
    · intro b0 hb0
      rw [objOld b0 (by omega)]; exact H.fresh b0 (by omega)
    · intro b0 vs0 k0 f0 v0 ho0
      by_cases hb0 : b0 = h.next
      · subst hb0
        rw [objNew] at ho0; injection ho0 with ho0; injection ho0 with _ _ g3 g4; subst g3; subst g4
        rw [hfamf]; exact ⟨by omega, Nat.le_refl _⟩
      · rw [objOld b0 hb0] at ho0
        have := H.rowver b0 vs0 k0 f0 v0 ho0
        refine ⟨by omega, ?_⟩
        by_cases hf : f0 = f
        · subst hf; rw [hfamf]; dsimp only
          rcases hv' with h' | h' <;> omega
        · rw [hfamo f0 hf]; exact this.2
    · intro b0 vs0 k0 f0 v0 ho0 hf0
      rw [hfams] at hf0
      by_cases hf : f0 = f
      · rw [if_pos hf] at hf0; cases hf0
      · rw [if_neg hf] at hf0
        by_cases hb0 : b0 = h.next
        · subst hb0
          rw [objNew] at ho0; injection ho0 with ho0; injection ho0 with _ _ g3 _
          exact absurd g3.symm hf
        · rw [objOld b0 hb0] at ho0
          exact H.rowone b0 vs0 k0 f0 v0 ho0 hf0
    · intro f0 x hx
      rw [hfams] at hx
      by_cases hf : f0 = f
      · subst hf; omega
      · rw [if_neg hf] at hx
        have := H.famnext f0 x hx; omega
    · intro f0 β0 st vst kt vt b0 s0 vs0 k0 v0 e1 ho1 e2 ho2 hv0
      by_cases hf : f0 = f
      · subst hf
        rw [hfamf] at e1 ho1 hv0
        dsimp only at e1 ho1 hv0
        rw [Emb.ext_same] at e1; injection e1 with e1; injection e1 with g1 g2; subst g1; subst g2
        rw [objNew] at ho1; injection ho1 with ho1; injection ho1 with g1 _ _ _; subst g1
        rcases old' b0 β1 s0 e2 with ⟨rfl, _, rfl⟩ | ⟨hne, h1, h2, e2'⟩
        · rw [objNew] at ho2; injection ho2 with ho2; injection ho2 with g1 _ _ _; subst g1; omega
        · rw [objOld b0 hne] at ho2
          rcases hplace with ⟨hp, hq⟩ | ⟨hp, _⟩
          · subst hp
            have hvle := (H.rowver b0 vs0 k0 f0 v0 ho2).2
            rcases hv' with ⟨h', htip⟩ | h'
            · have := H.tip f0 β1 s vs k v b0 s0 vs0 k0 v0 (by rw [htip]; exact hb) (by rw [htip]; exact ho) e2' ho2 (by omega)
              have := hq h'
              omega
            · omega
          · omega
      · rw [hfamo f0 hf] at e1 ho1 hv0
        have hne2 : b0 ≠ h.next := by
          rintro rfl
          rw [objNew] at ho2; injection ho2 with ho2; injection ho2 with _ _ g3 _
          exact hf g3.symm
        have hne1 : (h.fam f0).2 ≠ h.next := by
          intro e
          rw [e, objNew] at ho1; injection ho1 with ho1; injection ho1 with _ _ g3 _
          exact hf g3.symm
        rw [Emb.ext_ne _ _ _ hne1] at e1
        rw [Emb.ext_ne _ _ _ hne2] at e2
        rw [objOld _ hne1] at ho1
        rw [objOld _ hne2] at ho2
        exact H.tip f0 β0 st vst kt vt b0 s0 vs0 k0 v0 e1 ho1 e2 ho2 hv0
  · intro β0 hβ0 hn
    exact hother β0 (fun e => hn b s (by rw [e]; exact hb)) hβ0
  · intro b0 β0 s0 e hβ0
    rcases old' b0 β0 s0 e with ⟨rfl, rfl, _⟩ | ⟨_, _, _, e'⟩
    · rcases hplace with ⟨hp, _⟩ | ⟨hp, _⟩
      · exact ⟨b, s, by rw [hp]; exact hb⟩
      · omega
    · exact ⟨b0, s0, e'⟩
  · intro b0 x e
    by_cases hb0 : b0 = h.next
    · exact .inr (by omega)
    · rw [Emb.ext_ne _ _ _ hb0] at e; exact .inl e

/-- a map that is written -/
theorem Step.setMap {σ : Emb} {h : AHeap} {w w2 : World} (H : HRel σ h w) {b β s : Nat} {es es' : List (Value × Value)} {ents : Array MapEntry} {clock : Nat}
    (hb : σ b = some (β, s)) (ho : h.objs.get b = some (.map es)) (hr : ERels σ es' ents.toList) (hm : MapOk ents.toList clock)
    (hw : w2.heap = w.heap.setIfInBounds β (.map ents clock)) (_t2 : w2.tape = w.tape) (o2 : w2.os = w.os) (u2 : w2.output = w.output) :
    Step σ h w σ ⟨h.objs.set (.map es') b, h.next, h.fams⟩ w2 := by
  have hβ := (H.old b β s hb).2
  have hbn := (H.old b β s hb).1
  have hs := (H.map b β s es hb ho).1
  have hother : ∀ β', β' ≠ β → w2.heap[β']? = w.heap[β']? := fun β' hne => by
    rw [hw, Array.getElem?_setIfInBounds, if_neg (fun h => hne h.symm)]
  have hβ2 : w2.heap[β]? = some (.map ents clock) := by rw [hw]; simp [hβ]
  have hsize : w2.heap.size = w.heap.size := by rw [hw]; simp
  have hobjs : ∀ b0, (h.objs.set (.map es') b).get b0 = if b0 = b then some (.map es') else h.objs.get b0 := fun b0 => by rw [Trie.get_set]
  have alone : ∀ b0 β0 s0, σ b0 = some (β0, s0) → b0 ≠ b → β0 ≠ β := by
    rintro b0 β0 s0 e hne rfl
    rcases H.sep b b0 β0 s s0 hb e with h1 | ⟨_, _, _, _, _, _, _, h1, _⟩
    · exact hne h1.symm
    · rw [ho] at h1; cases h1
  refine ⟨Emb.le_refl σ, ?_, fun β0 hβ0 hn => hother β0 (fun e => hn b s (by rw [e]; exact hb)), by omega, Nat.le_refl _, fun b0 β0 s0 e0 _ => ⟨b0, s0, e0⟩, fun _ _ e0 => .inl e0, o2, u2⟩
  constructor
  · intro b0 β0 s0 e; rw [hsize]; exact H.old b0 β0 s0 e
  · intro b0 β0 s0 vs0 e ho0
    dsimp only at ho0
    rw [hobjs] at ho0
    by_cases hb0 : b0 = b
    · rw [if_pos hb0] at ho0; cases ho0
    · rw [if_neg hb0] at ho0
      obtain ⟨q, c, r, z⟩ := H.var b0 β0 s0 vs0 e ho0
      exact ⟨q, c, r.congr (hother β0 (alone b0 β0 s0 e hb0)), z⟩
  · intro b0 β0 s0 vs0 k0 f0 v0 e ho0 hv0
    dsimp only at ho0
    rw [hobjs] at ho0
    by_cases hb0 : b0 = b
    · rw [if_pos hb0] at ho0; cases ho0
    · rw [if_neg hb0] at ho0
      obtain ⟨c, r, z⟩ := H.row b0 β0 s0 vs0 k0 f0 v0 e ho0 hv0
      exact ⟨c, r.congr (hother β0 (alone b0 β0 s0 e hb0)), z⟩
  · intro b0 x0 vs0 k0 f0 v0 e ho0
    dsimp only at ho0
    rw [hobjs] at ho0
    by_cases hb0 : b0 = b
    · rw [if_pos hb0] at ho0; cases ho0
    · rw [if_neg hb0] at ho0
      exact H.rowk b0 x0 vs0 k0 f0 v0 e ho0
  · intro b0 x0 vs0 e ho0
    dsimp only at ho0
    rw [hobjs] at ho0
    by_cases hb0 : b0 = b
    · rw [if_pos hb0] at ho0; cases ho0
    · rw [if_neg hb0] at ho0
      exact H.vark b0 x0 vs0 e ho0
  · intro b0 β0 s0 es0 e ho0
    dsimp only at ho0
    rw [hobjs] at ho0
    by_cases hb0 : b0 = b
    · subst hb0
      rw [if_pos rfl] at ho0; injection ho0 with ho0; injection ho0 with ho0; subst ho0
      rw [hb] at e; injection e with e; injection e with e1 e2; subst e1; subst e2
      exact ⟨hs, ents, clock, hβ2, hr, hm⟩
    · rw [if_neg hb0] at ho0
      rw [hother β0 (alone b0 β0 s0 e hb0)]
      exact H.map b0 β0 s0 es0 e ho0
  · intro b0 b1 β0 s0 s1 e0 e1
    by_cases h01 : b0 = b1
    · exact .inl h01
    · by_cases hb0 : b0 = b
      · subst hb0
        rw [hb] at e0; injection e0 with e0; injection e0 with g1 g2; subst g1
        exact absurd rfl (alone b1 β s1 e1 (fun h => h01 h.symm))
      · by_cases hb1 : b1 = b
        · subst hb1
          rw [hb] at e1; injection e1 with e1; injection e1 with g1 g2; subst g1
          exact absurd rfl (alone b0 β s0 e0 hb0)
        · dsimp only
          rw [hobjs, hobjs, if_neg hb0, if_neg hb1]
          exact H.sep b0 b1 β0 s0 s1 e0 e1
  · intro b0 hb0
    dsimp only at hb0 ⊢
    rw [hobjs, if_neg (by omega)]; exact H.fresh b0 hb0
  · intro b0 vs0 k0 f0 v0 ho0
    dsimp only at ho0
    rw [hobjs] at ho0
    by_cases hb0 : b0 = b
    · rw [if_pos hb0] at ho0; cases ho0
    · rw [if_neg hb0] at ho0
      exact H.rowver b0 vs0 k0 f0 v0 ho0
  · intro b0 vs0 k0 f0 v0 ho0 hf0
    dsimp only at ho0
    rw [hobjs] at ho0
    by_cases hb0 : b0 = b
    · rw [if_pos hb0] at ho0; cases ho0
    · rw [if_neg hb0] at ho0
      exact H.rowone b0 vs0 k0 f0 v0 ho0 hf0
  · exact H.famnext
  · intro f0 β0 st vst kt vt b0 s0 vs0 k0 v0 e1 ho1 e2 ho2 hv0
    dsimp only at ho1 ho2
    rw [hobjs] at ho1 ho2
    by_cases hb0 : b0 = b
    · rw [if_pos hb0] at ho2; cases ho2
    · rw [if_neg hb0] at ho2
      by_cases hb1 : ((⟨h.objs.set (.map es') b, h.next, h.fams⟩ : AHeap).fam f0).2 = b
      · rw [if_pos hb1] at ho1; cases ho1
      · rw [if_neg hb1] at ho1
        exact H.tip f0 β0 st vst kt vt b0 s0 vs0 k0 v0 e1 ho1 e2 ho2 hv0

end Go.AM
