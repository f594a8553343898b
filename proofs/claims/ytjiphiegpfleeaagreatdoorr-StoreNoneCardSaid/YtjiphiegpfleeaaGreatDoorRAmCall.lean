import Derived.Test.YtjiphiegpfleeaaGreatDoorRAmRun
namespace Go.AM

section
variable {P : Program} {T : Tab}

def CodesOk (T : Tab) : Prop := ∀ f fn c, T.func f = some fn → fn.body = some c → codeOk fn.ntmps c = true
def SummsOk (P : Program) (T : Tab) : Prop := ∀ f s, T.summ f = some s → ∀ args h v h', s args h = some (v, h') → CallSound P T f args h v h'

theorem dstOk_mono {n m : Nat} (h : n ≤ m) {o : Oper} (e : dstOk n o = true) : dstOk m o = true := by
  unfold dstOk at e ⊢
  split at e
  · exact Nat.blt_eq.mpr (Nat.lt_of_lt_of_le (Nat.blt_eq.mp e) h)
  · rfl

theorem codeOk_mono {n m : Nat} (h : n ≤ m) : ∀ {c : Code}, codeOk n c = true → codeOk m c = true
  | .skip, _ => rfl
  | .exit _, _ => rfl
  | .ret, _ => rfl
  | .region _ ops _, e => by
    simp only [codeOk, List.all_eq_true] at e ⊢
    exact fun o ho => dstOk_mono h (e o ho)
  | .seq a b, e => by
    simp only [codeOk, Bool.and_eq_true] at e ⊢
    exact ⟨codeOk_mono h e.1, codeOk_mono h e.2⟩
  | .cond _ a b, e => by
    simp only [codeOk, Bool.and_eq_true] at e ⊢
    exact ⟨codeOk_mono h e.1, codeOk_mono h e.2⟩
  | .block _ b, e => by simp only [codeOk] at e ⊢; exact codeOk_mono h e
  | .loop b, e => by simp only [codeOk] at e ⊢; exact codeOk_mono h e
  | .rangeFunc .., e => by cases e
  | .scope _, e => by cases e
  | .label _, e => by cases e
  | .goto _, e => by cases e
  | .refuse _, e => by cases e

def resOne (tmps : Array Value) : ResultVar → Sem Value
  | .tmp t => pure (tmps.getD t undef)
  | .cell a t => do loadVar t (← asAddr (tmps.getD a undef))

theorem results_eq (fn : Func) (tmps : Array Value) : results fn tmps = (fn.results.mapM (resOne tmps) >>= fun vs => pure (if h : vs.size = 1 then vs[0] else .tuple vs)) := rfl

theorem results_list (hT : T.Ok P) {σ : Emb} {h : AHeap} {w : World} {e : Env} {tmps : Array Value} (H : HRel σ h w) (F : FRel σ e tmps) :
    ∀ {rs : List ResultVar} {l : List Value}, resultsA T h e rs = some l →
      ∃ l', VRels σ l l' ∧ (rs.mapM (resOne tmps)).run P w = .ok l' w
  | [], l, hr => by
    simp only [resultsA, Option.some.injEq] at hr; subst hr
    exact ⟨[], .nil, rfl⟩
  | .tmp t :: rs, l, hr => by
    simp only [resultsA] at hr
    split at hr
    · rename_i v r hv hrr
      injection hr with hr; subst hr
      obtain ⟨l', r1, r2⟩ := results_list hT H F hrr
      obtain ⟨v', q1, q2⟩ := F t v hv
      refine ⟨v' :: l', .cons q2 r1, ?_⟩
      have : tmps.getD t undef = v' := by simp [Array.getD_eq_getD_getElem?, q1]
      simp only [List.mapM_cons, Sem.run_bind, resOne, Sem.run_pure, Result.andThen_ok, this, r2]
    · cases hr
  | .cell c t :: rs, l, hr => by
    simp only [resultsA] at hr
    split at hr
    · rename_i p r hv hrr
      split at hr
      · rename_i v hl
        injection hr with hr; subst hr
        obtain ⟨l', r1, r2⟩ := results_list hT H F hrr
        obtain ⟨v', q1, q2⟩ := F c _ hv
        cases q2 with
        | ptr off hb =>
          rename_i b β s
          obtain ⟨u', s1, s2⟩ := run_loadVar hT H hb hl
          refine ⟨u' :: l', .cons s2 r1, ?_⟩
          have : tmps.getD c undef = .pointer (some ⟨β, s + off, none⟩) := by rw [Array.getD_eq_getD_getElem?, q1]; rfl
          simp only [List.mapM_cons, Sem.run_bind, resOne, Sem.run_pure, Result.andThen_ok, this, asAddr, s1, r2]
      · cases hr
    · cases hr

theorem answer_rel {σ : Emb} {l l' : List Value} (r : VRels σ l l') : VRel σ (answer l) (if h : l'.toArray.size = 1 then l'.toArray[0] else .tuple l'.toArray) := by
  cases r with
  | nil => exact .tuple .nil
  | cons h t => cases t with
    | nil => simpa [answer] using h
    | cons h2 t =>
      simp only [answer]
      rw [dif_neg (by simp)]
      exact .tuple (by simpa using .cons h (.cons h2 t))

theorem enter_rel {σ : Emb} {args : List Value} {args' : Array Value} (r : VRels σ args args'.toList) (n : Nat) :
    FRel σ (Trie.fill .leaf 0 args).get (args' ++ Array.replicate (n - args'.size) undef) := by
  intro t v hv
  rw [Trie.get_fill] at hv
  by_cases ht : 0 ≤ t ∧ t < 0 + args.length
  · rw [if_pos ht] at hv
    obtain ⟨v', h1, h2⟩ := r.get _ _ hv
    refine ⟨v', ?_, h2⟩
    have hlt : t < args'.size := by have := r.length; simp at this; omega
    rw [Array.getElem?_append_left hlt]
    simpa using h1
  · rw [if_neg ht] at hv
    cases hv

theorem call_step (hG : T.Good P) (hC : CodesOk T) (hS : SummsOk P T) (n : Nat)
    (ihc : ∀ m, m < n → ∀ f args h v h', runCall T m f args h = some (v, h') → CallSound P T f args h v h') (hdraw : ∀ m, m < n → DrawSound P T m) :
    ∀ f args h v h', runCall T (n + 1) f args h = some (v, h') → CallSound P T f args h v h' := by
  intro f args h v h' hr
  unfold runCall at hr
  split at hr
  · rename_i s hs
    exact hS f s hs args h v h' hr
  · split at hr
    · rename_i fn hfn
      split at hr
      · rename_i c hc
        obtain ⟨hf, _⟩ := hG.ok.func f fn hfn
        intro σ w args' H G ra
        have F := enter_rel ra fn.ntmps
        have hok : codeOk (args' ++ Array.replicate (fn.ntmps - args'.size) undef).size c = true := codeOk_mono (by simp; omega) (hC f fn c hfn hc)
        have fin : ∀ x e1 h1, runCode T n c (Trie.fill .leaf 0 args) h = some (x, e1, h1) → (x = .normal ∨ x = .ret) →
            (match resultsA T h1 e1.get fn.results.toList with | some l => some (answer l, h1) | none => none) = some (v, h') → Calls P f args' w (CallPost σ h w v h') := by
          intro x e1 h1 hrc hx hres
          split at hres
          · rename_i l hl
            simp only [Option.some.injEq, Prod.mk.injEq] at hres
            obtain ⟨rfl, rfl⟩ := hres
            refine calls_of_wp hf hc (Code.wp_mono ?_ (code_sound hG n ihc hdraw n (Nat.le_refl _) c _ e1 h h1 σ ⟨_, []⟩ w x hrc H F G hok).1)
            rintro x2 a2 w2 ⟨rfl, σ2, S2, F2, s2, d2⟩
            obtain ⟨l', r1, r2⟩ := results_list hG.ok S2.rel F2 hl
            have hres : (results fn a2.tmps).run P w2 = .ok (if h : l'.toArray.size = 1 then l'.toArray[0] else .tuple l'.toArray) w2 := by
              rw [results_eq, Sem.run_bind, Array.mapM_eq_mapM_toList, Sem.run_map, r2]
              rfl
            rcases hx with rfl | rfl
            · exact ⟨d2, _, hres, _, σ2, rfl, S2, answer_rel r1⟩
            · exact ⟨d2, _, hres, _, σ2, rfl, S2, answer_rel r1⟩
          · cases hres
        split at hr
        · rename_i e1 h1 hrc
          exact fin _ e1 h1 hrc (.inl rfl) hr
        · rename_i e1 h1 hrc
          exact fin _ e1 h1 hrc (.inr rfl) hr
        · cases hr
      · cases hr
    · cases hr

theorem call_sound (hG : T.Good P) (hC : CodesOk T) (hS : SummsOk P T)
    (hD : ∀ n, (∀ m, m < n → ∀ f args h v h', runCall T m f args h = some (v, h') → CallSound P T f args h v h') → DrawSound P T n) :
    ∀ n f args h v h', runCall T n f args h = some (v, h') → CallSound P T f args h v h' := by
  intro n
  induction n using Nat.strongRecOn with
  | _ n ih =>
    cases n with
    | zero => intro f args h v h' hr; unfold runCall at hr; cases hr
    | succ n =>
      exact call_step hG hC hS n (fun m hm => ih m (by omega)) (fun m hm => hD m fun k hk => ih k (by omega))
end
end Go.AM
