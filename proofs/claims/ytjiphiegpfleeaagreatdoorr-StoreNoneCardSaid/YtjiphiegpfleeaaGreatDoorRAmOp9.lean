import Derived.Test.YtjiphiegpfleeaaGreatDoorRAmOp8
import Derived.Laws.Externs
namespace Go.AM

def Ext.row : Ext → (Array Value → Sem Value)
  | .clone => Extern.MapsClone.clone
  | .indexByte => Extern.BytealgIndexByte.indexByte
  | .countByte => Extern.BytealgCount.count

/-- what a function without a body is -/
def ExtOk (P : Program) (T : Tab) : Prop := ∀ f k, T.ext f = some k → ∃ fn, P.funcs[f]? = some fn ∧ fn.body = none ∧ (fn.name == "runtime.NumGoroutine") = false ∧
  Extern.findNext fn = none ∧ Extern.find fn = some k.row

section
variable {P : Program} {T : Tab} {σ : Emb} {h h' : AHeap} {w : World}

theorem snd_un (H : HRel σ h w) {op : UnOp} {x x' v : Value} (rx : VRel σ x x') (e : unA op x = some v) :
    OpRes P σ h w (do pure (.value (← Op.unary op x'))) (.value v) h := by
  unfold unA at e
  split at e
  · injection e with e; subst e; cases rx
    exact resPure H rfl (.bool _)
  · injection e with e; subst e; cases rx
    refine resPure H ?_ (.int _ _)
    simp only [Op.unary, Op.intArith, Sem.run_pure, Int.zero_sub]
  · cases rx
    simp only [Op.intBits, Pure.pure, Option.some.injEq] at e; subst e
    refine resPure H ?_ (.int _ _)
    simp only [Op.unary, Op.intBits, Sem.run_pure]
  · cases e

/-! builtins -/
theorem snd_len (hT : T.Ok P) (H : HRel σ h w) {ats : Array TypeId} {ty : TypeId} {t : Nat} {x x' v : Value} (h0 : ats[0]? = some t) (rx : VRel σ x x') (e : lenA T h t x = some v) :
    OpRes P σ h w (do pure (.value (← Builtin.len_ ats ty #[x']))) (.value v) h := by
  have ha0 : (#[x'] : Array Value)[0]? = some x' := rfl
  unfold lenA at e
  split at e
  · rename_i s hu
    injection e with e; subst e; cases rx
    refine resPure H ?_ (.int _ _)
    simp only [Builtin.len_, h0, ha0, Sem.run_bind, run_und w (hT.und _ _ hu), Result.andThen_ok, Sem.run_pure, goInt]
  · rename_i n el hu
    injection e with e; subst e
    refine resPure H ?_ (.int _ _)
    simp only [Builtin.len_, h0, ha0, Sem.run_bind, run_und w (hT.und _ _ hu), Result.andThen_ok, Sem.run_pure, goInt]
  · rename_i el a n cap hu
    injection e with e; subst e
    refine resPure H ?_ (.int _ _)
    cases rx <;> simp only [Builtin.len_, h0, ha0, Sem.run_bind, run_und w (hT.und _ _ hu), Result.andThen_ok, Sem.run_pure, goInt]
  · rename_i kt el hu
    split at e
    · rename_i es hes
      injection e with e; subst e
      rcases mapOf_rel H rx hes with ⟨rfl, rfl⟩ | ⟨ρ, ents, clock, rfl, hmap, hr, _⟩
      · refine resPure H ?_ (.int _ _)
        simp only [Builtin.len_, h0, ha0, Sem.run_bind, run_und w (hT.und _ _ hu), Result.andThen_ok, Sem.run_pure, goInt]
        rfl
      · refine resPure H ?_ (.int _ _)
        have hl : ∀ {l : List (Value × Value)} {m : List MapEntry}, ERels σ l m → l.length = m.length := by
          intro l m hlm
          induction hlm with
          | nil => rfl
          | cons _ _ _ ih => simp [ih]
        have := hl hr
        simp only [Array.length_toList] at this
        simp only [Builtin.len_, h0, ha0, Sem.run_bind, run_und w (hT.und _ _ hu), Result.andThen_ok, run_getMap P hmap, Sem.run_pure, goInt, this]
    · cases e
  · cases e

theorem fold_rel {f : Value → Value → Option Value} {g : Value → Value → Sem Value} (hfg : ∀ a b c a' b', f a b = some c → VRel σ a a' → VRel σ b b' → ∃ c', (g a' b').run P w = .ok c' w ∧ VRel σ c c') :
    ∀ {l l' : List Value} {a a' v : Value}, VRels σ l l' → VRel σ a a' → foldA f a l = some v → ∃ v', (l'.foldlM g a').run P w = .ok v' w ∧ VRel σ v v'
  | _, _, a, a', v, .nil, ra, e => by
    simp only [foldA, Option.some.injEq] at e; subst e
    exact ⟨a', rfl, ra⟩
  | _, _, a, a', v, .cons hb t, ra, e => by
    simp only [foldA] at e
    split at e
    · rename_i c hc
      obtain ⟨c', r1, r2⟩ := hfg _ _ _ _ _ hc ra hb
      obtain ⟨v', r3, r4⟩ := fold_rel hfg t r2 e
      exact ⟨v', by simp only [List.foldlM_cons, Sem.run_bind, r1, Result.andThen_ok, r3], r4⟩
    · cases e

theorem max2_rel (a b c a' b' : Value) (e : max2A a b = some c) (ra : VRel σ a a') (rb : VRel σ b b') : ∃ c', (Builtin.max2 a' b').run P w = .ok c' w ∧ VRel σ c c' := by
  unfold max2A at e
  split at e
  · injection e with e; subst e; cases ra; cases rb
    exact ⟨_, rfl, .int _ _⟩
  · cases e
theorem min2_rel (a b c a' b' : Value) (e : min2A a b = some c) (ra : VRel σ a a') (rb : VRel σ b b') : ∃ c', (Builtin.min2 a' b').run P w = .ok c' w ∧ VRel σ c c' := by
  unfold min2A at e
  split at e
  · injection e with e; subst e; cases ra; cases rb
    exact ⟨_, rfl, .int _ _⟩
  · cases e

theorem snd_max (H : HRel σ h w) {ats : Array TypeId} {ty : TypeId} {a v : Value} {l : List Value} {args : Array Value} (rl : VRels σ (a :: l) args.toList) (e : foldA max2A a l = some v) :
    OpRes P σ h w (do pure (.value (← Builtin.max_ ats ty args))) (.value v) h := by
  unfold Builtin.max_
  generalize args.toList = al at rl
  cases rl with
  | cons ra t =>
    obtain ⟨v', r1, r2⟩ := fold_rel (P := P) (w := w) max2_rel t ra e
    exact resPure H r1 r2
theorem snd_min (H : HRel σ h w) {ats : Array TypeId} {ty : TypeId} {a v : Value} {l : List Value} {args : Array Value} (rl : VRels σ (a :: l) args.toList) (e : foldA min2A a l = some v) :
    OpRes P σ h w (do pure (.value (← Builtin.min_ ats ty args))) (.value v) h := by
  unfold Builtin.min_
  generalize args.toList = al at rl
  cases rl with
  | cons ra t =>
    obtain ⟨v', r1, r2⟩ := fold_rel (P := P) (w := w) min2_rel t ra e
    exact resPure H r1 r2

theorem snd_delete (hT : T.Ok P) (H : HRel σ h w) {ats : Array TypeId} {ty : TypeId} {t kt el r : Nat} {k k' m' : Value} {es es' : List (Value × Value)} (h0 : ats[0]? = some t) (hu : T.und t = some (.map kt el))
    (rm : VRel σ (.map (some r)) m') (rk : VRel σ k k') (ho : h.objs.get r = some (.map es)) (hf : keyFits T kt k = true) (hd : delA k es = some es') :
    OpRes P σ h w (do pure (.value (← Builtin.delete_ ats ty #[m', k']))) (.value (.tuple #[])) ⟨h.objs.set (.map es') r, h.next, h.fams⟩ := by
  have hkk := keyFits_rel hf rk; subst hkk
  obtain ⟨d, hkd⟩ := keyFits_und hf
  have ha0 : (#[m', k'] : Array Value)[0]? = some m' := rfl
  have ha1 : (#[m', k'] : Array Value)[1]? = some k' := rfl
  cases rm with
  | map hr =>
    rename_i ρ
    obtain ⟨_, ents, clock, hmap, hrel, hok⟩ := H.map _ _ _ _ hr ho
    have hck := keyFits_check hT hf w ents.isEmpty 9999
    rcases del_rel hkd hf 0 hrel hd with ⟨h1, h2⟩ | ⟨j, x, h1, h2⟩
    · have S := Step.setMap H hr ho (ents := ents) (clock := clock) h2 hok (w2 := { w with heap := w.heap.setIfInBounds ρ (.map ents clock) }) rfl rfl rfl rfl
      refine resStep S (v' := .tuple #[]) ?_ (.tuple .nil)
      simp only [Builtin.delete_, h0, ha0, ha1, Sem.run_bind, run_und w (hT.und _ _ hu), Result.andThen_ok, run_getMap P hmap, hck, Instr.findKey, run_und w (hT.und _ _ hkd), h1, Sem.run_pure, run_setMap P hmap]
    · rw [Nat.zero_add] at h1
      have S := Step.setMap H hr ho (ents := ents.eraseIdxIfInBounds j) (clock := clock) (by simpa using h2) (by simpa using hok.erase j)
        (w2 := { w with heap := w.heap.setIfInBounds ρ (.map (ents.eraseIdxIfInBounds j) clock) }) rfl rfl rfl rfl
      refine resStep S (v' := .tuple #[]) ?_ (.tuple .nil)
      simp only [Builtin.delete_, h0, ha0, ha1, Sem.run_bind, run_und w (hT.und _ _ hu), Result.andThen_ok, run_getMap P hmap, hck, Instr.findKey, run_und w (hT.und _ _ hkd), h1, Sem.run_pure, run_setMap P hmap]

/-- a write of a slice's cells -/
theorem slice_write (H : HRel σ h w) {a : Addr} {n kap : Nat} {x' : Value} {xs xs' : List Value} (rx : VRel σ (.slice (some a) n kap) x') (hn : 0 < n) (e : h.write a.block a.off xs = some h') (X : VRels σ xs xs') :
    ∃ a' cap w2, x' = .slice (some a') n cap ∧ (storeCells a' xs').run P w = .ok () w2 ∧ Step σ h w σ h' w2 := by
  cases rx with
  | tight hb => omega
  | slice hb g1 g2 g3 =>
    rename_i b β s off o cap
    obtain rfl : o = s + off := by rcases g3 with g3 | g3 <;> omega
    obtain ⟨c, hc, hcl, hone, hstep⟩ := Step.write H hb e X
    rcases hcl with hcl | hcl
    · obtain ⟨c', w2, r1, r2, r3, r4, r5⟩ := run_storeCells P xs' 0 w c β (s + off) hc (by omega) hone
      exact ⟨_, cap, w2, rfl, r1, hstep c' w2 r4 (fun j => by rw [r5]; rfl) r3 r2⟩
    · subst hcl
      exact ⟨_, cap, w, rfl, rfl, hstep c w rfl (fun j => by simp only [List.length_nil]; rw [if_neg (by omega)]) hc (Wrote.refl w β)⟩

theorem zeroCells_eq (z : Array Value) (n : Nat) : (Builtin.zeroCells z n).toList = rept z.toList n := by
  unfold Builtin.zeroCells
  by_cases h0 : n * z.size = 0
  · have hl : (rept z.toList n).length = 0 := by rw [rept_length]; simpa using h0
    rw [List.eq_nil_of_length_eq_zero hl, h0]; simp
  · exact zeros_eq z z.size n rfl z (by rw [if_neg h0])

theorem snd_clear (hT : T.Ok P) (H : HRel σ h w) {ats : Array TypeId} {ty : TypeId} {t el n kap : Nat} {a : Option Addr} {x' : Value} (h0 : ats[0]? = some t) (hu : T.und t = some (.slice el)) (rx : VRel σ (.slice a n kap) x')
    (e : (a = none ∧ h' = h) ∨ (n = 0 ∧ h' = h) ∨ ∃ a0 z, a = some a0 ∧ 0 < n ∧ zeroRow T el n = some z ∧ h.write a0.block a0.off z = some h') :
    OpRes P σ h w (do pure (.value (← Builtin.clear_ ats ty #[x']))) (.value (.tuple #[])) h' := by
  have ha0 : (#[x'] : Array Value)[0]? = some x' := rfl
  rcases e with ⟨rfl, rfl⟩ | ⟨rfl, rfl⟩ | ⟨a0, z, rfl, hn, hz, hw⟩
  · cases rx
    refine resPure H (v' := .tuple #[]) ?_ (.tuple .nil)
    simp only [Builtin.clear_, h0, ha0, Sem.run_bind, run_und w (hT.und _ _ hu), Result.andThen_ok, Sem.run_pure]
  · refine resPure H (v' := .tuple #[]) ?_ (.tuple .nil)
    cases rx <;> simp only [Builtin.clear_, h0, ha0, Sem.run_bind, run_und w (hT.und _ _ hu), Result.andThen_ok, Sem.run_pure]
  · obtain ⟨z0, k, hz0, hk, hzs, hzc, rfl⟩ := zeroRow_spec hT w hz
    obtain ⟨rz, _⟩ := run_zero hT w hz0
    have X : VRels σ (rept z0.cells.toList n) (Builtin.zeroCells z0.cells n).toList := by
      rw [zeroCells_eq]
      have x := (VRel.const (σ := σ) hzc).cells.rept n
      have hv : vcells z0 = z0.cells.toList := by cases z0 <;> rfl
      rw [hv] at x; exact x
    obtain ⟨a', cap, w2, rfl, r1, S⟩ := slice_write (P := P) H rx hn hw X
    refine resStep S (v' := .tuple #[]) ?_ (.tuple .nil)
    obtain ⟨m, rfl⟩ : ∃ m, n = m + 1 := ⟨n - 1, by omega⟩
    simp only [Builtin.clear_, h0, ha0, Sem.run_bind, run_und w (hT.und _ _ hu), Result.andThen_ok, rz, r1, Sem.run_pure]

theorem snd_copy (hT : T.Ok P) (H : HRel σ h w) {ats : Array TypeId} {ty : TypeId} {t el k sl dl kap : Nat} {base : Option Addr} {d' s s' : Value} {cs : List Value} (h0 : ats[0]? = some t) (hu : T.und t = some (.slice el))
    (hk : T.size el = some k) (rd : VRel σ (.slice base dl kap) d') (rs : VRel σ s s') (hs : sourceCells h k s = some (sl, cs)) (hle : sl ≤ dl)
    (e : (base = none ∧ h' = h) ∨ (sl = 0 ∧ h' = h) ∨ ∃ a, base = some a ∧ 0 < sl ∧ h.write a.block a.off cs = some h') :
    OpRes P σ h w (do pure (.value (← Builtin.copy_ ats ty #[d', s']))) (.value (.int .i64 sl)) h' := by
  have ha0 : (#[d', s'] : Array Value)[0]? = some d' := rfl
  have ha1 : (#[d', s'] : Array Value)[1]? = some s' := rfl
  obtain ⟨q1, q2, cs', q3, q4⟩ := source_rel P H rs hs
  have hmin : Nat.min sl dl = sl := Nat.min_eq_left hle
  have gen : ∀ {base' : Option Addr} {cap : Nat} {w2 : World}, d' = .slice base' dl cap → (match base' with | some a => storeCells a cs' | none => pure () : Sem Unit).run P w = .ok () w2 →
      (Builtin.copy_ ats ty #[d', s']).run P w = .ok (.int .i64 sl) w2 := by
    intro base' cap w2 hd hw2
    subst hd
    simp only [Builtin.copy_, h0, ha0, ha1, Sem.run_bind, run_und w (hT.und _ _ hu), Result.andThen_ok, q2, run_size hT w hk, hmin, q4]
    cases base' with
    | none =>
      simp only [Sem.run_pure, Result.ok.injEq, true_and] at hw2
      subst hw2; rfl
    | some a =>
      simp only at hw2
      simp only [Sem.run_bind, hw2, Result.andThen_ok, Sem.run_pure, goInt]
  rcases e with ⟨rfl, rfl⟩ | ⟨rfl, rfl⟩ | ⟨a, rfl, hn, hw⟩
  · cases rd
    exact resPure H (gen rfl rfl) (.int _ _)
  · have : cs' = [] := List.eq_nil_of_length_eq_zero (by rw [← q3.length, q1]; simp)
    subst this
    cases rd
    · exact resPure H (gen rfl rfl) (.int _ _)
    · exact resPure H (gen rfl rfl) (.int _ _)
    · exact resPure H (gen rfl rfl) (.int _ _)
  · obtain ⟨a', cap, w2, rfl, r1, S⟩ := slice_write (P := P) H rd (by omega) hw q3
    exact resStep S (gen rfl r1) (.int _ _)
end
end Go.AM
