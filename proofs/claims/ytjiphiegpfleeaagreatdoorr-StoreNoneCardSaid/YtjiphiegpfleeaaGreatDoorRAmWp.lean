import Derived.Test.YtjiphiegpfleeaaGreatDoorRAmMono
namespace Go.AM
/-! what code comes to, as a proposition: slots as a function, no fuel -/
def EnvLe (f g : Env) : Prop := ∀ t v, f t = some v → g t = some v
def upd (f : Env) (d : Nat) (v : Value) : Env := fun t => bif Nat.beq t d then some v else f t
def updD (f : Env) (d : Option Nat) (v : Value) : Env := match d with | some d => upd f d v | none => f

section
variable {T : Tab} {f g : Env}

theorem ev_mono (H : EnvLe f g) {x : Operand} {v : Value} (h : ev T f x = some v) : ev T g x = some v := by
  cases x with
  | tmp t => exact H t v h
  | const _ => exact h
  | global _ => exact h
  | func _ => exact h
theorem evs_mono (H : EnvLe f g) : ∀ {l : List Operand} {vs : List Value}, evs T f l = some vs → evs T g l = some vs
  | [], vs, h => h
  | x :: l, vs, h => by
    unfold evs at h ⊢
    split at h
    · rename_i v r hv hr
      rw [ev_mono H hv, evs_mono H hr]
      exact h
    · cases h
theorem parts_mono (H : EnvLe f g) : ∀ {l : List (Nat × Operand)} {vs : List (Nat × Value)}, parts T f l = some vs → parts T g l = some vs
  | [], vs, h => h
  | (i, x) :: l, vs, h => by
    unfold parts at h ⊢
    split at h
    · rename_i v r hv hr
      rw [ev_mono H hv, parts_mono H hr]
      exact h
    · cases h
theorem evo_mono (H : EnvLe f g) {x : Option Operand} {v : Option Value} (h : evo T f x = some v) : evo T g x = some v := by
  cases x with
  | none => exact h
  | some x =>
    unfold evo at h ⊢
    simp only at h ⊢
    split at h
    · rename_i v hv; rw [ev_mono H hv]; exact h
    · cases h

theorem callOp_mono (H : EnvLe f g) {h : AHeap} {c : Call} {r : Next' × AHeap} (e : callOp T h f c = some r) : callOp T h g c = some r := by
  unfold callOp at e ⊢
  split at e
  · cases e
  · rename_i args ha
    rw [evs_mono H ha]
    simp only
    split at e
    · exact e
    · split at e
      · rename_i _ hv; rw [ev_mono H hv]; exact e
      · cases e
    · split at e
      · rename_i _ hv; rw [ev_mono H hv]; exact e
      · cases e

theorem opA_env (H : EnvLe f g) {h : AHeap} {o : Op} {r : Next' × AHeap} (e : opA T h f o = some r) : opA T h g o = some r := by
  have em : ∀ {x : Operand} {v : Value}, ev T f x = some v → ev T g x = some v := fun h => ev_mono H h
  cases o with
  | call c => exact callOp_mono H e
  | alloc t => exact e
  | makeMap t r => cases r <;> exact e
  | build t ps =>
    simp only [opA] at e ⊢
    split at e
    · rename_i l hl; rw [parts_mono H hl]; exact e
    · cases e
  | buildSlice t n ps =>
    simp only [opA] at e ⊢
    split at e
    · rename_i l el hl hu; rw [parts_mono H hl, hu]; exact e
    · cases e
  | makeFunc fn a b =>
    cases fn <;> simp only [opA] at e ⊢ <;> first | (cases e; done) | skip
    split at e
    · rename_i l el hl hu; rw [evs_mono H hl, evs_mono H hu]; exact e
    · cases e
  | slice t x lo hi mx =>
    simp only [opA] at e ⊢
    split at e
    · rename_i a b c d h1 h2 h3 h4; rw [em h1, evo_mono H h2, evo_mono H h3, evo_mono H h4]; exact e
    · cases e
  | pick c a b =>
    simp only [opA] at e ⊢
    split at e
    · rename_i c hc
      rw [em hc]
      cases c with
      | true =>
        simp only [cond_true] at e ⊢
        split at e
        · rename_i v hv; rw [em hv]; exact e
        · cases e
      | false =>
        simp only [cond_false] at e ⊢
        split at e
        · rename_i v hv; rw [em hv]; exact e
        · cases e
    · cases e
  | move x => simp only [opA] at e ⊢; split at e <;> first | (cases e; done) | (rename_i h1; rw [em h1]; exact e)
  | assign x => simp only [opA] at e ⊢; split at e <;> first | (cases e; done) | (rename_i h1; rw [em h1]; exact e)
  | box t x => simp only [opA] at e ⊢; split at e <;> first | (cases e; done) | (rename_i h1; rw [em h1]; exact e)
  | load t x => simp only [opA] at e ⊢; split at e <;> first | (cases e; done) | (rename_i h1; rw [em h1]; exact e)
  | store t x y => simp only [opA] at e ⊢; split at e <;> first | (cases e; done) | (rename_i h1 h2; rw [em h1, em h2]; exact e)
  | nilCheck x => simp only [opA] at e ⊢; split at e <;> first | (cases e; done) | (rename_i h1; rw [em h1]; exact e)
  | binOp op t x y s => simp only [opA] at e ⊢; split at e <;> first | (cases e; done) | (rename_i h1 h2; rw [em h1, em h2]; exact e)
  | unOp op t x => simp only [opA] at e ⊢; split at e <;> first | (cases e; done) | (rename_i h1; rw [em h1]; exact e)
  | convert s d x => simp only [opA] at e ⊢; split at e <;> first | (cases e; done) | (rename_i h1; rw [em h1]; exact e)
  | makeInterface t x => simp only [opA] at e ⊢; split at e <;> first | (cases e; done) | (rename_i h1 h2; rw [em h1, h2]; exact e)
  | makeSlice t x y => simp only [opA] at e ⊢; split at e <;> first | (cases e; done) | (rename_i h1 h2 h3; rw [em h1, em h2, h3]; exact e)
  | fieldAddr t x i => simp only [opA] at e ⊢; split at e <;> first | (cases e; done) | (rename_i h1 h2; rw [em h1, h2]; exact e)
  | field t x i => simp only [opA] at e ⊢; split at e <;> first | (cases e; done) | (rename_i h1 h2; rw [em h1, h2]; exact e)
  | indexAddr t x i => simp only [opA] at e ⊢; split at e <;> first | (cases e; done) | (rename_i h1 h2 h3; rw [em h1, em h2, h3]; exact e)
  | index t x i => simp only [opA] at e ⊢; split at e <;> first | (cases e; done) | (rename_i h1 h2 h3; rw [em h1, em h2, h3]; exact e)
  | lookup t m k ok => simp only [opA] at e ⊢; split at e <;> first | (cases e; done) | (rename_i h1 h2; rw [em h1, em h2]; exact e)
  | mapUpdate t m k v => simp only [opA] at e ⊢; split at e <;> first | (cases e; done) | (rename_i h1 h2 h3; rw [em h1, em h2, em h3]; exact e)
  | insert t m k v => simp only [opA] at e ⊢; split at e <;> first | (cases e; done) | (rename_i h1 h2 h3; rw [em h1, em h2, em h3]; exact e)
  | extract x i => simp only [opA] at e ⊢; split at e <;> first | (cases e; done) | (rename_i h1; rw [em h1]; exact e)
  | typeAssert x s t ok => simp only [opA] at e ⊢; split at e <;> first | (cases e; done) | (rename_i h1 h2; rw [em h1, h2]; exact e)
  | _ => cases e
end

/-- a call's answer, however many steps it takes -/
def Ev (T : Tab) (f : Nat) (args : List Value) (h : AHeap) (v : Value) (h' : AHeap) : Prop := ∃ n, runCall T n f args h = some (v, h')

section
variable (T : Tab)
def wpOp (h : AHeap) (f : Env) (o : Op) (K : Value → AHeap → Prop) : Prop :=
  match opA T h f o with
  | some (.value v, h') => K v h'
  | some (.skip, h') => K undef h'
  | some (.enter g args, h') => ∃ v h2, Ev T g args h' v h2 ∧ K v h2
  | none => False
def wpOps (all : List Oper) : List Oper → Env → AHeap → (Env → AHeap → Prop) → Prop
  | [], f, h, K => K f h
  | o :: rest, f, h, K => match wantedA all f o with
    | some c => cond c (wpOp T h f o.op fun v h' => wpOps all rest (updD f o.dst v) h' K) (wpOps all rest (updD f o.dst undef) h K)
    | none => False
/-- so many rounds at most -/
def wpIter (B : Env → AHeap → (Exit' → Env → AHeap → Prop) → Prop) (K : Exit' → Env → AHeap → Prop) : Nat → Env → AHeap → Prop
  | 0, _, _ => False
  | n + 1, f, h => B f h fun x f h => match x with
    | .normal => ∃ g, EnvLe g f ∧ wpIter B K n g h
    | x => K x f h
/-- a region that draws its order, as the machine runs it -/
def wpDraw (id : Nat) (ops : Array Oper) (f : Env) (h : AHeap) (K : Env → AHeap → Prop) : Prop :=
  ∀ e : Trie Value, EnvLe f e.get → ∃ n e' h' f', runCode T n (.region id ops true) e h = some (.normal, e', h') ∧ EnvLe f' e'.get ∧ K f' h'
def wpCode : Code → Env → AHeap → (Exit' → Env → AHeap → Prop) → Prop
  | .skip, f, h, K => K .normal f h
  | .seq a b, f, h, K => wpCode a f h fun x f h => match x with
    | .normal => wpCode b f h K
    | x => K x f h
  | .cond x a b, f, h, K => match ev T f x with
    | some (.bool t) => cond t (wpCode a f h K) (wpCode b f h K)
    | _ => False
  | .block id b, f, h, K => wpCode b f h fun x f h => match x with
    | .exit i => cond (Nat.beq i id) (K .normal f h) (K (.exit i) f h)
    | x => K x f h
  | .loop b, f, h, K => ∃ g, EnvLe g f ∧ ∃ n, wpIter (wpCode b) K n g h
  | .exit i, f, h, K => K (.exit i) f h
  | .ret, f, h, K => K .ret f h
  | .region _ ops false, f, h, K => wpOps T ops.toList ops.toList f h (K .normal)
  | .region id ops true, f, h, K => wpDraw T id ops f h (K .normal)
  | _, _, _, _ => False
end

section
variable {T : Tab}
theorem EnvLe.upd {f g : Env} (H : EnvLe f g) (d : Nat) (v : Value) : EnvLe (upd f d v) (upd g d v) := by
  intro t u h
  unfold AM.upd at h ⊢
  cases ht : Nat.beq t d with
  | true => rw [ht] at h; exact h
  | false => rw [ht] at h; exact H t u h
theorem EnvLe.setDst {f : Env} {e : Trie Value} (H : EnvLe f e.get) (d : Option Nat) (v : Value) : EnvLe (updD f d v) (setDst e d v).get := by
  cases d with
  | none => exact H
  | some d =>
    intro t u h
    change AM.upd f d v t = some u at h
    show (e.set v d).get t = some u
    rw [Trie.get_set]
    unfold AM.upd at h
    cases ht : Nat.beq t d with
    | true =>
      rw [ht] at h
      rw [if_pos (Nat.eq_of_beq_eq_true ht)]; exact h
    | false =>
      rw [ht] at h
      rw [if_neg (Nat.ne_of_beq_eq_false ht)]; exact H t u h
theorem wanted_env {f : Env} {e : Trie Value} (H : EnvLe f e.get) {all : List Oper} {o : Oper} {c : Bool} (h : wantedA all f o = some c) : wantedA all e.get o = some c := by
  unfold wantedA at h ⊢
  split at h
  · exact h
  · rename_i j want hg
    split at h
    · rename_i p hp
      split at h
      · rename_i d hd
        split at h
        · rename_i b hb; rw [H _ _ hb]; exact h
        · rename_i v hn hv
          rw [H _ _ hv]
          cases v <;> first | exact h | exact absurd rfl (hn _)
        · cases h
      · cases h
    · cases h

theorem wpOps_sound {all : List Oper} : ∀ {ops : List Oper} {f : Env} {h : AHeap} {K : Env → AHeap → Prop} {e : Trie Value}, wpOps T all ops f h K → EnvLe f e.get →
    ∃ n e' h' f', runOps T n all ops e h = some (e', h') ∧ EnvLe f' e'.get ∧ K f' h'
  | [], f, h, K, e, hw, H => ⟨1, e, h, f, by unfold runOps; rfl, H, hw⟩
  | o :: rest, f, h, K, e, hw, H => by
    unfold wpOps at hw
    split at hw
    · rename_i c hc
      have hc' := wanted_env H hc
      cases c with
      | false =>
        simp only [cond_false] at hw
        obtain ⟨n, e', h', f', r1, r2, r3⟩ := wpOps_sound hw (H.setDst o.dst undef)
        refine ⟨n + 1, e', h', f', ?_, r2, r3⟩
        unfold runOps
        simp only [hc', r1]
      | true =>
        simp only [cond_true] at hw
        unfold wpOp at hw
        split at hw
        · rename_i v h1 ho
          obtain ⟨n, e', h', f', r1, r2, r3⟩ := wpOps_sound hw (H.setDst o.dst v)
          refine ⟨n + 1, e', h', f', ?_, r2, r3⟩
          unfold runOps
          simp only [hc', opA_env H ho, r1]
        · rename_i h1 ho
          obtain ⟨n, e', h', f', r1, r2, r3⟩ := wpOps_sound hw (H.setDst o.dst undef)
          refine ⟨n + 1, e', h', f', ?_, r2, r3⟩
          unfold runOps
          simp only [hc', opA_env H ho, r1]
        · rename_i g args h1 ho
          obtain ⟨v, h2, ⟨m, hm⟩, hw⟩ := hw
          obtain ⟨n, e', h', f', r1, r2, r3⟩ := wpOps_sound hw (H.setDst o.dst v)
          refine ⟨(n + m) + 1, e', h', f', ?_, r2, r3⟩
          unfold runOps
          simp only [hc', opA_env H ho, mono_call (show m ≤ n + m by omega) hm, mono_ops (show n ≤ n + m by omega) r1]
        · cases hw
    · cases hw

theorem wpCode_sound : ∀ {c : Code} {f : Env} {h : AHeap} {K : Exit' → Env → AHeap → Prop} {e : Trie Value}, wpCode T c f h K → EnvLe f e.get →
    ∃ n x e' h' f', runCode T n c e h = some (x, e', h') ∧ EnvLe f' e'.get ∧ K x f' h'
  | .skip, f, h, K, e, hw, H => ⟨1, .normal, e, h, f, by unfold runCode; rfl, H, hw⟩
  | .exit i, f, h, K, e, hw, H => ⟨1, .exit i, e, h, f, by unfold runCode; rfl, H, hw⟩
  | .ret, f, h, K, e, hw, H => ⟨1, .ret, e, h, f, by unfold runCode; rfl, H, hw⟩
  | .region id ops false, f, h, K, e, hw, H => by
    obtain ⟨n, e', h', f', r1, r2, r3⟩ := wpOps_sound hw H
    refine ⟨n + 1, .normal, e', h', f', ?_, r2, r3⟩
    unfold runCode
    simp only [r1]
  | .region id ops true, f, h, K, e, hw, H => by
    obtain ⟨n, e', h', f', r1, r2, r3⟩ := hw e H
    exact ⟨n, .normal, e', h', f', r1, r2, r3⟩
  | .seq a b, f, h, K, e, hw, H => by
    unfold wpCode at hw
    obtain ⟨n, x, e1, h1, f1, r1, r2, r3⟩ := wpCode_sound hw H
    cases x with
    | normal =>
      obtain ⟨m, y, e2, h2, f2, q1, q2, q3⟩ := wpCode_sound r3 r2
      refine ⟨(n + m) + 1, y, e2, h2, f2, ?_, q2, q3⟩
      unfold runCode
      simp only [mono_code (show n ≤ n + m by omega) r1, mono_code (show m ≤ n + m by omega) q1]
    | exit i =>
      refine ⟨n + 1, _, e1, h1, f1, ?_, r2, r3⟩
      unfold runCode
      simp only [r1]
    | ret =>
      refine ⟨n + 1, _, e1, h1, f1, ?_, r2, r3⟩
      unfold runCode
      simp only [r1]
  | .cond x a b, f, h, K, e, hw, H => by
    unfold wpCode at hw
    split at hw
    · rename_i t ht
      cases t with
      | true =>
        simp only [cond_true] at hw
        obtain ⟨n, x, e1, h1, f1, r1, r2, r3⟩ := wpCode_sound hw H
        refine ⟨n + 1, _, e1, h1, f1, ?_, r2, r3⟩
        unfold runCode
        simp only [ev_mono H ht, cond_true, r1]
      | false =>
        simp only [cond_false] at hw
        obtain ⟨n, x, e1, h1, f1, r1, r2, r3⟩ := wpCode_sound hw H
        refine ⟨n + 1, _, e1, h1, f1, ?_, r2, r3⟩
        unfold runCode
        simp only [ev_mono H ht, cond_false, r1]
    · cases hw
  | .block id b, f, h, K, e, hw, H => by
    unfold wpCode at hw
    obtain ⟨n, x, e1, h1, f1, r1, r2, r3⟩ := wpCode_sound hw H
    cases x with
    | normal =>
      refine ⟨n + 1, _, e1, h1, f1, ?_, r2, r3⟩
      unfold runCode
      simp only [r1]
    | ret =>
      refine ⟨n + 1, _, e1, h1, f1, ?_, r2, r3⟩
      unfold runCode
      simp only [r1]
    | exit i =>
      simp only at r3
      cases hi : Nat.beq i id with
      | true =>
        rw [hi] at r3
        refine ⟨n + 1, .normal, e1, h1, f1, ?_, r2, r3⟩
        unfold runCode
        simp only [r1, hi, cond_true]
      | false =>
        rw [hi] at r3
        refine ⟨n + 1, .exit i, e1, h1, f1, ?_, r2, r3⟩
        unfold runCode
        simp only [r1, hi, cond_false]
  | .loop b, f, h, K, e, hw, H => by
    obtain ⟨g0, hg0, k, hk⟩ := hw
    have key : ∀ (k : Nat) (f : Env) (h : AHeap) (e : Trie Value), wpIter (wpCode T b) K k f h → EnvLe f e.get →
        ∃ n x e' h' f', runCode T n (.loop b) e h = some (x, e', h') ∧ EnvLe f' e'.get ∧ K x f' h' := by
      intro k
      induction k with
      | zero => intro f h e hw _; cases hw
      | succ k ih =>
        intro f h e hw H
        unfold wpIter at hw
        obtain ⟨n, x, e1, h1, f1, r1, r2, r3⟩ := wpCode_sound hw H
        cases x with
        | normal =>
          obtain ⟨g, hg, r3⟩ := r3
          obtain ⟨m, y, e2, h2, f2, q1, q2, q3⟩ := ih g h1 e1 r3 (fun t v ht => r2 t v (hg t v ht))
          refine ⟨(n + m) + 1, y, e2, h2, f2, ?_, q2, q3⟩
          unfold runCode
          simp only [mono_code (show n ≤ n + m by omega) r1, mono_code (show m ≤ n + m by omega) q1]
        | exit i =>
          refine ⟨n + 1, _, e1, h1, f1, ?_, r2, r3⟩
          unfold runCode
          simp only [r1]
        | ret =>
          refine ⟨n + 1, _, e1, h1, f1, ?_, r2, r3⟩
          unfold runCode
          simp only [r1]
    exact key k g0 h e hk (fun t v ht => H t v (hg0 t v ht))
  | .rangeFunc _ _ _ _, f, h, K, e, hw, H => hw.elim
  | .scope _, f, h, K, e, hw, H => hw.elim
  | .label _, f, h, K, e, hw, H => hw.elim
  | .goto _, f, h, K, e, hw, H => hw.elim
  | .refuse _, f, h, K, e, hw, H => hw.elim

/-- the slots of a function's beginning -/
def argEnv (args : List Value) : Env := nth args

theorem resultsA_env {f : Env} {e : Trie Value} (H : EnvLe f e.get) {h : AHeap} : ∀ {rs : List ResultVar} {l : List Value}, resultsA T h f rs = some l → resultsA T h e.get rs = some l
  | [], l, hr => hr
  | .tmp t :: rs, l, hr => by
    unfold resultsA at hr ⊢
    split at hr
    · rename_i v r hv hrr; rw [H _ _ hv, resultsA_env H hrr]; exact hr
    · cases hr
  | .cell a t :: rs, l, hr => by
    unfold resultsA at hr ⊢
    split at hr
    · rename_i v r hv hrr; rw [H _ _ hv, resultsA_env H hrr]; exact hr
    · cases hr

/-- a function, by what its body comes to -/
theorem Ev.of_wp {f : Nat} {fn : Func} {c : Code} {args : List Value} {h : AHeap} {Q : Value → AHeap → Prop} (hs : T.summ f = none) (hf : T.func f = some fn) (hc : fn.body = some c)
    (hw : wpCode T c (argEnv args) h fun x g h' => (x = .normal ∨ x = .ret) ∧ (match resultsA T h' g fn.results.toList with | some l => Q (answer l) h' | none => False)) :
    ∃ v h', Ev T f args h v h' ∧ Q v h' := by
  have H : EnvLe (argEnv args) (Trie.fill .leaf 0 args).get := by
    intro t v ht
    unfold argEnv at ht
    rw [nth_eq] at ht
    rw [Trie.get_fill]
    have : t < args.length := by
      rcases Nat.lt_or_ge t args.length with h' | h'
      · exact h'
      · rw [List.getElem?_eq_none h'] at ht; cases ht
    rw [if_pos ⟨Nat.zero_le _, by omega⟩]
    simpa using ht
  obtain ⟨n, x, e', h', g, r1, r2, r3, r4⟩ := wpCode_sound hw H
  split at r4
  · rename_i l hl
    refine ⟨answer l, h', ⟨n + 1, ?_⟩, r4⟩
    unfold runCall
    have hl' := resultsA_env r2 hl
    rcases r3 with rfl | rfl <;> simp only [hs, hf, hc, r1, hl']
  · cases r4

theorem wpOp_mono {h : AHeap} {f : Env} {o : Op} {K K' : Value → AHeap → Prop} (hk : ∀ v h, K v h → K' v h) (hw : wpOp T h f o K) : wpOp T h f o K' := by
  unfold wpOp at hw ⊢
  split at hw
  · exact hk _ _ hw
  · exact hk _ _ hw
  · obtain ⟨v, h2, h3, h4⟩ := hw; exact ⟨v, h2, h3, hk _ _ h4⟩
  · exact hw
theorem wpOps_mono {all : List Oper} : ∀ {ops : List Oper} {f : Env} {h : AHeap} {K K' : Env → AHeap → Prop}, (∀ f h, K f h → K' f h) → wpOps T all ops f h K → wpOps T all ops f h K'
  | [], f, h, K, K', hk, hw => hk _ _ hw
  | o :: rest, f, h, K, K', hk, hw => by
    unfold wpOps at hw ⊢
    split at hw
    · rename_i c _
      cases c with
      | true => exact wpOp_mono (fun v h hv => wpOps_mono hk hv) hw
      | false => exact wpOps_mono hk hw
    · exact hw
theorem wpIter_mono {B : Env → AHeap → (Exit' → Env → AHeap → Prop) → Prop} (hB : ∀ f h K K', (∀ x f h, K x f h → K' x f h) → B f h K → B f h K') {K K' : Exit' → Env → AHeap → Prop} (hk : ∀ x f h, K x f h → K' x f h) :
    ∀ {n : Nat} {f : Env} {h : AHeap}, wpIter B K n f h → wpIter B K' n f h
  | 0, _, _, hw => hw
  | n + 1, f, h, hw => by
    unfold wpIter at hw ⊢
    refine hB _ _ _ _ (fun x f h hx => ?_) hw
    cases x with
    | normal => obtain ⟨g, h1, h2⟩ := hx; exact ⟨g, h1, wpIter_mono hB hk h2⟩
    | exit i => exact hk _ _ _ hx
    | ret => exact hk _ _ _ hx
theorem wpCode_mono : ∀ {c : Code} {f : Env} {h : AHeap} {K K' : Exit' → Env → AHeap → Prop}, (∀ x f h, K x f h → K' x f h) → wpCode T c f h K → wpCode T c f h K'
  | .skip, f, h, K, K', hk, hw => hk _ _ _ hw
  | .exit i, f, h, K, K', hk, hw => hk _ _ _ hw
  | .ret, f, h, K, K', hk, hw => hk _ _ _ hw
  | .region id ops false, f, h, K, K', hk, hw => wpOps_mono (hk _) hw
  | .region id ops true, f, h, K, K', hk, hw => fun e he => by
    obtain ⟨n, e', h', f', r1, r2, r3⟩ := hw e he
    exact ⟨n, e', h', f', r1, r2, hk _ _ _ r3⟩
  | .seq a b, f, h, K, K', hk, hw => by
    unfold wpCode at hw ⊢
    refine wpCode_mono (fun x f h hx => ?_) hw
    cases x with
    | normal => exact wpCode_mono hk hx
    | exit i => exact hk _ _ _ hx
    | ret => exact hk _ _ _ hx
  | .cond x a b, f, h, K, K', hk, hw => by
    unfold wpCode at hw ⊢
    split at hw
    · rename_i t _
      cases t with
      | true => exact wpCode_mono hk hw
      | false => exact wpCode_mono hk hw
    · exact hw
  | .block id b, f, h, K, K', hk, hw => by
    unfold wpCode at hw ⊢
    refine wpCode_mono (fun x f h hx => ?_) hw
    cases x with
    | normal => exact hk _ _ _ hx
    | ret => exact hk _ _ _ hx
    | exit i =>
      simp only at hx ⊢
      cases hi : Nat.beq i id with
      | true => rw [hi] at hx; exact hk _ _ _ hx
      | false => rw [hi] at hx; exact hk _ _ _ hx
  | .loop b, f, h, K, K', hk, hw => by
    obtain ⟨g, h1, n, h2⟩ := hw
    exact ⟨g, h1, n, wpIter_mono (B := wpCode T b) (fun f h K K2 hk hw => wpCode_mono hk hw) hk h2⟩
  | .rangeFunc _ _ _ _, f, h, K, _, hk, hw => hw.elim
  | .scope _, f, h, K, _, hk, hw => hw.elim
  | .label _, f, h, K, _, hk, hw => hw.elim
  | .goto _, f, h, K, _, hk, hw => hw.elim
  | .refuse _, f, h, K, _, hk, hw => hw.elim

theorem EnvLe.refl (f : Env) : EnvLe f f := fun _ _ h => h
theorem EnvLe.trans {f g k : Env} (h : EnvLe f g) (h2 : EnvLe g k) : EnvLe f k := fun t v e => h2 t v (h t v e)
theorem EnvLe.updD {f g : Env} (H : EnvLe f g) (d : Option Nat) (v : Value) : EnvLe (updD f d v) (updD g d v) := by
  cases d with
  | none => exact H
  | some d => exact H.upd d v
theorem wanted_envLe {f g : Env} (H : EnvLe f g) {all : List Oper} {o : Oper} {c : Bool} (h : wantedA all f o = some c) : wantedA all g o = some c := by
  unfold wantedA at h ⊢
  split at h
  · exact h
  · rename_i j want hg
    split at h
    · rename_i p hp
      split at h
      · rename_i d hd
        split at h
        · rename_i b hb; rw [H _ _ hb]; exact h
        · rename_i v hn hv
          rw [H _ _ hv]
          cases v <;> first | exact h | exact absurd rfl (hn _)
        · cases h
      · cases h
    · cases h
theorem wpOps_env {all : List Oper} : ∀ {ops : List Oper} {f g : Env} {h : AHeap} {K K' : Env → AHeap → Prop}, (∀ f' g' h', EnvLe f' g' → K f' h' → K' g' h') → EnvLe f g → wpOps T all ops f h K → wpOps T all ops g h K'
  | [], f, g, h, K, K', hk, H, hw => hk _ _ _ H hw
  | o :: rest, f, g, h, K, K', hk, H, hw => by
    unfold wpOps at hw ⊢
    split at hw
    · rename_i c hc
      rw [wanted_envLe H hc]
      cases c with
      | true =>
        simp only [cond_true] at hw ⊢
        unfold wpOp at hw ⊢
        split at hw
        · rename_i ho
          rw [opA_env H ho]
          exact wpOps_env hk (H.updD _ _) hw
        · rename_i ho
          rw [opA_env H ho]
          exact wpOps_env hk (H.updD _ _) hw
        · rename_i ho
          rw [opA_env H ho]
          obtain ⟨v, h2, h3, h4⟩ := hw
          exact ⟨v, h2, h3, wpOps_env hk (H.updD _ _) h4⟩
        · cases hw
      | false => exact wpOps_env hk (H.updD _ _) hw
    · cases hw
theorem wpCode_env : ∀ {c : Code} {f g : Env} {h : AHeap} {K K' : Exit' → Env → AHeap → Prop}, (∀ x f' g' h', EnvLe f' g' → K x f' h' → K' x g' h') → EnvLe f g → wpCode T c f h K → wpCode T c g h K'
  | .skip, f, g, h, K, K', hk, H, hw => hk _ _ _ _ H hw
  | .exit i, f, g, h, K, K', hk, H, hw => hk _ _ _ _ H hw
  | .ret, f, g, h, K, K', hk, H, hw => hk _ _ _ _ H hw
  | .region id ops false, f, g, h, K, K', hk, H, hw => wpOps_env (hk _) H hw
  | .region id ops true, f, g, h, K, K', hk, H, hw => fun e he => by
    obtain ⟨n, e', h', f', r1, r2, r3⟩ := hw e (H.trans he)
    exact ⟨n, e', h', f', r1, r2, hk _ _ _ _ (EnvLe.refl _) r3⟩
  | .seq a b, f, g, h, K, K', hk, H, hw => by
    unfold wpCode at hw ⊢
    refine wpCode_env (fun x f' g' h' H' hx => ?_) H hw
    cases x with
    | normal => exact wpCode_env hk H' hx
    | exit i => exact hk _ _ _ _ H' hx
    | ret => exact hk _ _ _ _ H' hx
  | .cond x a b, f, g, h, K, K', hk, H, hw => by
    unfold wpCode at hw ⊢
    split at hw
    · rename_i t ht
      rw [ev_mono H ht]
      cases t with
      | true => exact wpCode_env hk H hw
      | false => exact wpCode_env hk H hw
    · cases hw
  | .block id b, f, g, h, K, K', hk, H, hw => by
    unfold wpCode at hw ⊢
    refine wpCode_env (fun x f' g' h' H' hx => ?_) H hw
    cases x with
    | normal => exact hk _ _ _ _ H' hx
    | ret => exact hk _ _ _ _ H' hx
    | exit i =>
      simp only at hx ⊢
      cases hi : Nat.beq i id with
      | true => rw [hi] at hx; exact hk _ _ _ _ H' hx
      | false => rw [hi] at hx; exact hk _ _ _ _ H' hx
  | .loop b, f, g, h, K, K', hk, H, hw => by
    obtain ⟨g0, h1, n, h2⟩ := hw
    exact ⟨g0, h1.trans H, n, wpIter_mono (B := wpCode T b) (fun f h K K2 hk hw => wpCode_mono hk hw) (fun x f h hx => hk x f f h (EnvLe.refl _) hx) h2⟩
  | .rangeFunc _ _ _ _, f, g, h, K, _, hk, H, hw => hw.elim
  | .scope _, f, g, h, K, _, hk, H, hw => hw.elim
  | .label _, f, g, h, K, _, hk, H, hw => hw.elim
  | .goto _, f, g, h, K, _, hk, H, hw => hw.elim
  | .refuse _, f, g, h, K, _, hk, H, hw => hw.elim

/-- slots by a list -/
def envOf : List (Nat × Value) → Env
  | [] => fun _ => none
  | (d, v) :: l => fun t => bif Nat.beq t d then some v else envOf l t
theorem envOf_le : ∀ {l : List (Nat × Value)} {f : Env}, (∀ p ∈ l, f p.1 = some p.2) → EnvLe (envOf l) f
  | [], f, _ => fun t v h => by cases h
  | (d, u) :: l, f, hl => fun t v h => by
    unfold envOf at h
    cases ht : Nat.beq t d with
    | true =>
      rw [ht] at h
      obtain rfl := Nat.eq_of_beq_eq_true ht
      injection h with h; subst h
      exact hl (t, u) (List.mem_cons.2 (.inl rfl))
    | false =>
      rw [ht] at h
      exact envOf_le (fun p hp => hl p (List.mem_cons.2 (.inr hp))) t v h
/-- all slots of a list hold -/
def Slots (f : Env) : List (Nat × Value) → Prop
  | [] => True
  | (d, v) :: l => f d = some v ∧ Slots f l
theorem Slots.le {f : Env} : ∀ {l : List (Nat × Value)}, Slots f l → EnvLe (envOf l) f := by
  intro l h
  refine envOf_le ?_
  induction l with
  | nil => intro p hp; cases hp
  | cons x l ih =>
    obtain ⟨d, v⟩ := x
    intro p hp
    rcases List.mem_cons.1 hp with rfl | hp
    · exact h.1
    · exact ih h.2 p hp

/-- a loop, by what holds at each round's head: the slots S a, the relation I, the measure μ -/
theorem loop_inv {α : Type} {b : Code} {f : Env} {h : AHeap} {K : Exit' → Env → AHeap → Prop} (S : α → List (Nat × Value)) (I : α → AHeap → Prop) (μ : α → Nat) (a0 : α) (hS : Slots f (S a0)) (hI : I a0 h)
    (step : ∀ a h, I a h → wpCode T b (envOf (S a)) h fun x f' h' => match x with
      | .normal => ∃ a', Slots f' (S a') ∧ I a' h' ∧ μ a' < μ a
      | x => K x f' h') : wpCode T (.loop b) f h K := by
  refine ⟨envOf (S a0), hS.le, ?_⟩
  have key : ∀ (m : Nat) (a : α) (h : AHeap), μ a < m → I a h → ∃ n, wpIter (wpCode T b) K n (envOf (S a)) h := by
    intro m
    induction m with
    | zero => intro a h hm _; omega
    | succ m ih =>
      intro a h hm hI
      -- the rounds that follow, whichever state comes: bounded by the measure
      have hb : ∀ (k : Nat) (a : α) (h : AHeap), μ a < k → I a h → wpIter (wpCode T b) K k (envOf (S a)) h := by
        intro k
        induction k with
        | zero => intro a h hk _; omega
        | succ k ihk =>
          intro a h hk hI
          unfold wpIter
          refine wpCode_mono (fun x f' h' hx => ?_) (step a h hI)
          cases x with
          | normal =>
            obtain ⟨a', h1, h2, h3⟩ := hx
            exact ⟨envOf (S a'), h1.le, ihk a' h' (by omega) h2⟩
          | exit i => exact hx
          | ret => exact hx
      exact ⟨m + 1, hb (m + 1) a h hm hI⟩
  exact key (μ a0 + 1) a0 h (by omega) hI
end
end Go.AM
