import Derived.Test.YtjiphiegpfleeaaGreatDoorRAmSound
import Derived.Tactics
import Derived.Orders
namespace Go.AM

section
variable {P : Program} {T : Tab}

def toExit : Exit' → Exit
  | .normal => .normal
  | .exit id => .exit id
  | .ret => .ret

/-- what a piece of code leaves -/
def CodePost (σ : Emb) (h : AHeap) (w : World) (a : Act) (x : Exit') (e' : Trie Value) (h' : AHeap) : Exit → Act → World → Prop := fun x2 a2 w2 =>
  x2 = toExit x ∧ ∃ σ', Step σ h w σ' h' w2 ∧ FRel σ' e'.get a2.tmps ∧ a2.tmps.size = a.tmps.size ∧ a2.defers = a.defers

def LoopWp (P : Program) (c : Code) (Q : Exit → Act → World → Prop) (a : Act) (w : World) : Prop :=
  ∀ (b : Frame) (k : List Item) (cs : List Frame), ∃ e a' w', Q e a' w' ∧ Arrives P (lone (b.at a (.code c :: .inLoop c :: k)) cs w) b k cs e a' w'

theorem wp_of_loop {c : Code} {Q : Exit → Act → World → Prop} {a : Act} {w : World} (h : LoopWp P c Q a w) : (Code.loop c).wp P Q a w := by
  intro b k cs
  obtain ⟨e, a', w', hq, harr⟩ := h b k cs
  exact ⟨e, a', w', hq, .of_steps (.one step_loop) harr⟩

theorem loop_step {c : Code} {Q : Exit → Act → World → Prop} {a : Act} {w : World} (h : c.wp P (Exit.then (fun a' w' => LoopWp P c Q a' w') Q) a w) : LoopWp P c Q a w := by
  intro b k cs
  obtain ⟨e, a₁, w₁, hq, harr⟩ := h b (.inLoop c :: k) cs
  cases e with
  | normal =>
    obtain ⟨e₂, a₂, w₂, hq₂, harr₂⟩ := hq b k cs
    exact ⟨e₂, a₂, w₂, hq₂, .of_steps (Steps.trans harr (.one step_inLoop)) harr₂⟩
  | exit id => exact ⟨_, a₁, w₁, hq, .pass (x := .inLoop c) rfl (fun _ _ => .inl (by simp)) harr⟩
  | goto l => exact ⟨_, a₁, w₁, hq, .pass (x := .inLoop c) rfl (fun _ _ => .inl (by simp)) harr⟩
  | ret => exact ⟨_, a₁, w₁, hq, .pass (x := .inLoop c) rfl (fun _ _ => .inl (by simp)) harr⟩
  | panic ch => exact ⟨_, a₁, w₁, hq, .pass (x := .inLoop c) rfl (fun _ _ => .inl (by simp)) harr⟩
  | outgrown => exact ⟨_, a₁, w₁, hq, .pass (x := .inLoop c) rfl (fun _ _ => .inl (by simp)) harr⟩

/-- a call: what it leaves -/
def CallPost (σ : Emb) (h : AHeap) (w : World) (v : Value) (h' : AHeap) : Ending → World → Prop := fun e w2 =>
  ∃ v' σ', e = .returned v' ∧ Step σ h w σ' h' w2 ∧ VRel σ' v v'

def CallSound (P : Program) (T : Tab) (f : Nat) (args : List Value) (h : AHeap) (v : Value) (h' : AHeap) : Prop :=
  ∀ (σ : Emb) (w : World) (args' : Array Value), HRel σ h w → GRel σ T.nglob → VRels σ args args'.toList → Calls P f args' w (CallPost σ h w v h')

theorem FRel.set {σ : Emb} {e : Trie Value} {tmps : Array Value} (F : FRel σ e.get tmps) {d : Nat} {v v' : Value} (rv : VRel σ v v') (hd : d < tmps.size) :
    FRel σ (e.set v d).get (tmps.setIfInBounds d v') := by
  intro t u hu
  rw [Trie.get_set] at hu
  by_cases ht : t = d
  · subst ht
    rw [if_pos rfl] at hu; injection hu with hu; subst hu
    exact ⟨v', by simp [hd], rv⟩
  · rw [if_neg ht] at hu
    obtain ⟨u', h1, h2⟩ := F t u hu
    exact ⟨u', by rw [Array.getElem?_setIfInBounds, if_neg (fun h => ht h.symm)]; exact h1, h2⟩

theorem FRel.put {σ : Emb} {e : Trie Value} {a : Act} (F : FRel σ e.get a.tmps) {o : Oper} {v v' : Value} (rv : VRel σ v v') (hd : dstOk a.tmps.size o = true) :
    FRel σ (setDst e o.dst v).get (a.put o.dst v').tmps ∧ (a.put o.dst v').tmps.size = a.tmps.size ∧ (a.put o.dst v').defers = a.defers := by
  unfold dstOk at hd
  unfold setDst Act.put
  cases h : o.dst with
  | none => exact ⟨F, rfl, rfl⟩
  | some d =>
    rw [h] at hd
    exact ⟨F.set rv (Nat.blt_eq.mp hd), by simp, rfl⟩

theorem undef_rel (σ : Emb) : VRel σ undef undef := .tuple .nil

theorem wanted_rel {σ : Emb} {e : Env} {tmps : Array Value} (F : FRel σ e tmps) {all : Array Oper} {o : Oper} {b : Bool} (h : wantedA all.toList e o = some b) : Region.wanted o (yielded all tmps) = b := by
  unfold wantedA at h
  unfold Region.wanted
  cases hg : o.guard with
  | none => rw [hg] at h; simp only [Option.some.injEq] at h; exact h
  | some p =>
    obtain ⟨j, want⟩ := p
    rw [hg] at h
    simp only at h ⊢
    split at h
    · rename_i p hp
      rw [nth_eq] at hp
      have hp' : all[j]? = some p := by simpa using hp
      split at h
      · rename_i d hd
        have hy : yielded all tmps j = match tmps[d]? with | some (.bool b) => some b | _ => none := by
          unfold yielded
          rw [hp']
          simp only [Option.bind_some, hd]
          rfl
        rw [hy]
        split at h
        · rename_i c hc
          obtain ⟨v', h1, h2⟩ := F d _ hc
          cases h2
          rw [h1]
          simp only [Option.some.injEq] at h; subst h
          simp
        · rename_i v hv hc
          obtain ⟨v', h1, h2⟩ := F d _ hc
          rw [h1]
          simp only [Option.some.injEq] at h; subst h
          cases h2 <;> first | rfl | exact absurd rfl (hv _)
        · cases h
      · cases h
    · cases h

/-- a run through a list of operations -/
theorem ops_sound (hG : T.Good P) (n : Nat)
    (ihc : ∀ m, m < n → ∀ f args h v h', runCall T m f args h = some (v, h') → CallSound P T f args h v h') :
    ∀ m, m ≤ n → ∀ (all : Array Oper) (ops : List Oper) (e e' : Trie Value) (h h' : AHeap) (σ0 σ : Emb) (h0 : AHeap) (a0 a : Act) (w0 w : World),
      runOps T m all.toList ops e h = some (e', h') → Step σ0 h0 w0 σ h w → FRel σ e.get a.tmps → GRel σ T.nglob → a.tmps.size = a0.tmps.size → a.defers = a0.defers →
      (ops.all (dstOk a0.tmps.size)) = true → wpList P all (CodePost σ0 h0 w0 a0 .normal e' h') ops a w
  | 0, _, _, _, _, _, _, _, _, _, _, _, _, _, _, hr, _, _, _, _, _, _ => by cases hr
  | m + 1, hm, all, ops, e, e', h, h', σ0, σ, h0, a0, a, w0, w, hr, S, F, G, hsz, hdf, hd => by
    unfold runOps at hr
    cases ops with
    | nil =>
      simp only [Option.some.injEq, Prod.mk.injEq] at hr
      obtain ⟨rfl, rfl⟩ := hr
      exact ⟨rfl, σ, S, F, hsz, hdf⟩
    | cons o rest =>
      simp only at hr
      simp only [List.all_cons, Bool.and_eq_true] at hd
      have hdo : dstOk a.tmps.size o = true := by rw [hsz]; exact hd.1
      split at hr
      · rename_i hw
        have hwant := wanted_rel F hw
        unfold wpList
        rw [if_pos hwant]
        left
        unfold Oper.wp
        split at hr
        · rename_i v h1 ho
          obtain ⟨w1, σ1, S1, hn⟩ := opA_sound hG S.rel F G ho
          generalize hrun : (execOp a.eval o).run P w = r at hn
          cases hn with
          | value rv =>
            obtain ⟨p1, p2, p3⟩ := FRel.put (F.mono S1.le) (o := o) rv hdo
            exact ops_sound hG n ihc m (by omega) all rest _ e' h1 h' σ0 σ1 h0 a0 _ w0 w1 hr (S.trans S1) p1 (G.mono S1.le) (p2.trans hsz) (p3.trans hdf) hd.2
        · rename_i h1 ho
          obtain ⟨w1, σ1, S1, hn⟩ := opA_sound hG S.rel F G ho
          generalize hrun : (execOp a.eval o).run P w = r at hn
          cases hn with
          | skip =>
            obtain ⟨p1, p2, p3⟩ := FRel.put (F.mono S1.le) (o := o) (undef_rel σ1) hdo
            exact ops_sound hG n ihc m (by omega) all rest _ e' h1 h' σ0 σ1 h0 a0 _ w0 w1 hr (S.trans S1) p1 (G.mono S1.le) (p2.trans hsz) (p3.trans hdf) hd.2
        · rename_i f args h1 ho
          obtain ⟨w1, σ1, S1, hn⟩ := opA_sound hG S.rel F G ho
          split at hr
          · rename_i v h2 hc
            generalize hrun : (execOp a.eval o).run P w = r at hn
            cases hn with
            | enter ra =>
              show Calls P f _ w1 _
              refine (ihc m (by omega) f args h1 v h2 hc σ1 w1 _ S1.rel (G.mono S1.le) ra).mono ?_
              rintro x w2 ⟨v', σ2, rfl, S2, rv⟩
              obtain ⟨p1, p2, p3⟩ := FRel.put (F.mono (Emb.le_trans S1.le S2.le)) (o := o) rv hdo
              exact ops_sound hG n ihc m (by omega) all rest _ e' h2 h' σ0 σ2 h0 a0 _ w0 w2 hr ((S.trans S1).trans S2) p1 (G.mono (Emb.le_trans S1.le S2.le)) (p2.trans hsz) (p3.trans hdf) hd.2
          · cases hr
        · cases hr
      · rename_i hw
        have hwant := wanted_rel F hw
        unfold wpList
        rw [if_neg (by rw [hwant]; simp)]
        obtain ⟨p1, p2, p3⟩ := FRel.put F (o := o) (undef_rel σ) hdo
        exact ops_sound hG n ihc m (by omega) all rest _ e' h h' σ0 σ h0 a0 _ w0 w hr S p1 G (p2.trans hsz) (p3.trans hdf) hd.2
      · cases hr

/-- what is owed of a region that draws its order -/
def DrawSound (P : Program) (T : Tab) (n : Nat) : Prop := ∀ (id : Nat) (ops : Array Oper) (e e' : Trie Value) (h h' : AHeap) (σ : Emb) (a : Act) (w : World) (x : Exit'),
  runCode T (n + 1) (.region id ops true) e h = some (x, e', h') → HRel σ h w → FRel σ e.get a.tmps → GRel σ T.nglob → ops.toList.all (dstOk a.tmps.size) = true →
  (Code.region id ops true).wp P (CodePost σ h w a x e' h') a w

theorem CodePost.weaken {σ σ1 : Emb} {h h1 h' : AHeap} {w w1 : World} {a a1 : Act} {x : Exit'} {e' : Trie Value} (S : Step σ h w σ1 h1 w1) (hs : a1.tmps.size = a.tmps.size) (hd : a1.defers = a.defers)
    {x2 : Exit} {a2 : Act} {w2 : World} (q : CodePost σ1 h1 w1 a1 x e' h' x2 a2 w2) : CodePost σ h w a x e' h' x2 a2 w2 := by
  obtain ⟨h1, σ2, S2, F2, s2, d2⟩ := q
  exact ⟨h1, σ2, S.trans S2, F2, s2.trans hs, d2.trans hd⟩

theorem code_sound (hG : T.Good P) (n : Nat)
    (ihc : ∀ m, m < n → ∀ f args h v h', runCall T m f args h = some (v, h') → CallSound P T f args h v h') (hdraw : ∀ m, m < n → DrawSound P T m) :
    ∀ m, m ≤ n → ∀ (c : Code) (e e' : Trie Value) (h h' : AHeap) (σ : Emb) (a : Act) (w : World) (x : Exit'),
      runCode T m c e h = some (x, e', h') → HRel σ h w → FRel σ e.get a.tmps → GRel σ T.nglob → codeOk a.tmps.size c = true →
      c.wp P (CodePost σ h w a x e' h') a w ∧ (∀ b, c = .loop b → LoopWp P b (CodePost σ h w a x e' h') a w)
  | 0, _, _, _, _, _, _, _, _, _, _, hr, _, _, _, _ => by unfold runCode at hr; cases hr
  | m + 1, hm, c, e, e', h, h', σ, a, w, x, hr, H, F, G, hok => by
    have hr0 := hr
    unfold runCode at hr
    cases c with
    | skip =>
      simp only [Option.some.injEq, Prod.mk.injEq] at hr
      obtain ⟨rfl, rfl, rfl⟩ := hr
      exact ⟨wp_skip ⟨rfl, σ, Step.refl H, F, rfl, rfl⟩, fun b hb => by cases hb⟩
    | exit id =>
      simp only [Option.some.injEq, Prod.mk.injEq] at hr
      obtain ⟨rfl, rfl, rfl⟩ := hr
      exact ⟨wp_exit ⟨rfl, σ, Step.refl H, F, rfl, rfl⟩, fun b hb => by cases hb⟩
    | ret =>
      simp only [Option.some.injEq, Prod.mk.injEq] at hr
      obtain ⟨rfl, rfl, rfl⟩ := hr
      exact ⟨wp_ret ⟨rfl, σ, Step.refl H, F, rfl, rfl⟩, fun b hb => by cases hb⟩
    | region id ops draw =>
      refine ⟨?_, fun b hb => by cases hb⟩
      cases draw with
      | false =>
        simp only at hr
        split at hr
        · rename_i e1 h1 hops
          simp only [Option.some.injEq, Prod.mk.injEq] at hr
          obtain ⟨rfl, rfl, rfl⟩ := hr
          exact wp_region_list (ops_sound hG n ihc m (by omega) ops ops.toList e e1 h h1 σ σ h a a w w hops (Step.refl H) F G rfl rfl hok)
        · cases hr
      | true => exact hdraw m (by omega) id ops e e' h h' σ a w x hr0 H F G hok
    | seq c1 c2 =>
      refine ⟨?_, fun b hb => by cases hb⟩
      simp only [codeOk, Bool.and_eq_true] at hok
      simp only at hr
      split at hr
      · rename_i e1 h1 h1r
        refine wp_seq (Code.wp_mono ?_ (code_sound hG n ihc hdraw m (by omega) c1 e e1 h h1 σ a w .normal h1r H F G hok.1).1)
        rintro x2 a2 w2 ⟨rfl, σ2, S2, F2, s2, d2⟩
        exact Code.wp_mono (fun _ _ _ q => CodePost.weaken S2 s2 d2 q)
          (code_sound hG n ihc hdraw m (by omega) c2 e1 e' h1 h' σ2 a2 w2 x hr S2.rel F2 (G.mono S2.le) (by rw [s2]; exact hok.2)).1
      · rename_i hne
        have h1 := code_sound hG n ihc hdraw m (by omega) c1 e e' h h' σ a w x hr H F G hok.1
        refine wp_seq (Code.wp_mono ?_ h1.1)
        rintro x2 a2 w2 q
        have q0 := q
        obtain ⟨rfl, _⟩ := q0
        cases x with
        | normal => exact absurd hr (hne _ _)
        | exit id => exact q
        | ret => exact q
    | cond c t f =>
      refine ⟨?_, fun b hb => by cases hb⟩
      simp only [codeOk, Bool.and_eq_true] at hok
      simp only at hr
      split at hr
      · rename_i b hb
        have rb := ev_rel F G hb
        generalize hcv : a.eval c = cv at rb
        cases rb
        cases b with
        | true => exact wp_cond_true hcv (code_sound hG n ihc hdraw m (by omega) t e e' h h' σ a w x hr H F G hok.1).1
        | false => exact wp_cond_false hcv (code_sound hG n ihc hdraw m (by omega) f e e' h h' σ a w x hr H F G hok.2).1
      · cases hr
    | block id c =>
      refine ⟨?_, fun b hb => by cases hb⟩
      simp only [codeOk] at hok
      simp only at hr
      split at hr
      · rename_i i e1 h1 h1r
        refine wp_block (Code.wp_mono ?_ (code_sound hG n ihc hdraw m (by omega) c e e1 h h1 σ a w _ h1r H F G hok).1)
        rintro x2 a2 w2 ⟨rfl, σ2, S2, F2, s2, d2⟩
        cases hi : Nat.beq i id with
        | true =>
          rw [hi] at hr; simp only [cond_true, Option.some.injEq, Prod.mk.injEq] at hr
          obtain ⟨rfl, rfl, rfl⟩ := hr
          simp only [toExit, Exit.inBlock, Nat.eq_of_beq_eq_true hi, if_true]
          exact ⟨rfl, σ2, S2, F2, s2, d2⟩
        | false =>
          rw [hi] at hr; simp only [cond_false, Option.some.injEq, Prod.mk.injEq] at hr
          obtain ⟨rfl, rfl, rfl⟩ := hr
          simp only [toExit, Exit.inBlock, Nat.ne_of_beq_eq_false hi, if_false]
          exact ⟨rfl, σ2, S2, F2, s2, d2⟩
      · rename_i hne
        have h1 := code_sound hG n ihc hdraw m (by omega) c e e' h h' σ a w x hr H F G hok
        refine wp_block (Code.wp_mono ?_ h1.1)
        rintro x2 a2 w2 q
        have q0 := q
        obtain ⟨rfl, _⟩ := q0
        cases x with
        | normal => exact q
        | exit id => exact absurd hr (hne _ _ _)
        | ret => exact q
    | loop c =>
      simp only [codeOk] at hok
      simp only at hr
      have key : LoopWp P c (CodePost σ h w a x e' h') a w := by
        split at hr
        · rename_i e1 h1 h1r
          refine loop_step (Code.wp_mono ?_ (code_sound hG n ihc hdraw m (by omega) c e e1 h h1 σ a w .normal h1r H F G hok).1)
          rintro x2 a2 w2 ⟨rfl, σ2, S2, F2, s2, d2⟩
          have := (code_sound hG n ihc hdraw m (by omega) (.loop c) e1 e' h1 h' σ2 a2 w2 x hr S2.rel F2 (G.mono S2.le) (by rw [s2]; exact hok)).2 c rfl
          intro b k cs
          obtain ⟨e2, a3, w3, q, r⟩ := this b k cs
          exact ⟨e2, a3, w3, CodePost.weaken S2 s2 d2 q, r⟩
        · rename_i hne
          refine loop_step (Code.wp_mono ?_ (code_sound hG n ihc hdraw m (by omega) c e e' h h' σ a w x hr H F G hok).1)
          rintro x2 a2 w2 q
          have q0 := q
          obtain ⟨rfl, _⟩ := q0
          cases x with
          | normal => exact absurd hr (hne _ _)
          | exit id => exact q
          | ret => exact q
      exact ⟨wp_of_loop key, fun b hb => by injection hb with hb; subst hb; exact key⟩
    | _ => cases hr
end
end Go.AM
