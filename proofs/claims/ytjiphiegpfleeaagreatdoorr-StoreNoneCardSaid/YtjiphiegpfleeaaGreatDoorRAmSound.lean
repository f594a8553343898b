import Derived.Test.YtjiphiegpfleeaaGreatDoorRAmOp9
import Derived.Lib.Bytealg
namespace Go.AM

theorem extract_one {α : Type} (x : α) (l : Array α) : (#[x] ++ l).extract 1 (#[x] ++ l).size = l := by
  apply Array.ext'
  rw [Array.toList_extract]
  simp [List.extract]
  exact List.take_of_length_le (by simp)
theorem first_one {α : Type} (x : α) (l : Array α) : (#[x] ++ l)[0]? = some x := by
  rw [Array.getElem?_append_left (by simp)]; rfl
theorem find_congr {α : Type} {p q : α → Bool} : ∀ (l : List α), (∀ x ∈ l, p x = q x) → l.find? p = l.find? q
  | [], _ => rfl
  | a :: l, h => by
    simp only [List.find?_cons, h a (List.mem_cons_self ..), find_congr l fun x hx => h x (List.mem_cons_of_mem _ hx)]
theorem find_bytes (s : ByteArray) (c : UInt8) : (List.range s.data.toList.length).find? (fun j => (s.data.toList)[j]! == c) = (List.range s.size).find? fun i => s[i]! == c := by
  have hs : s.data.toList.length = s.size := rfl
  rw [hs]
  apply find_congr
  intro i hi
  have hi' : i < s.size := by simpa using hi
  rw [getElem!_pos s.data.toList i (by rw [hs]; exact hi'), getElem!_pos s i hi']
  rfl

/-- what the tables must be for a program -/
structure Tab.Good (P : Program) (T : Tab) : Prop where
  ok : T.Ok P
  flat : FlatOk P T
  ext : ExtOk P T

section
variable {P : Program} {T : Tab} {σ : Emb} {h h' : AHeap} {w : World}

theorem evo_rel {e : Env} {a : Act} (F : FRel σ e a.tmps) (G : GRel σ T.nglob) {x : Option Operand} {r : Option Value} (h : evo T e x = some r) : ORel σ r (x.map a.eval) := by
  cases x with
  | none => simp only [evo, Option.some.injEq] at h; subst h; exact trivial
  | some x =>
    simp only [evo] at h
    split at h
    · rename_i v hv
      injection h with h; subst h
      exact ev_rel F G hv
    · cases h

theorem findByte_spec (c : UInt8) : ∀ (l : List UInt8) (i : Nat), findByte c l i = ((List.range l.length).find? fun j => l[j]! == c).map (· + i)
  | [], i => rfl
  | a :: l, i => by
    simp only [findByte, List.length_cons, List.range_succ_eq_map, List.find?_cons]
    cases hc : a == c with
    | true => simp [hc]
    | false =>
      simp only [cond_false]
      rw [findByte_spec c l (i + 1)]
      simp only [List.getElem!_cons_zero, hc, List.find?_map]
      simp only [Option.map_map]
      congr 1
      funext j; simp; omega

theorem count_eq (c : UInt8) (l : List UInt8) : Lib.countByte l c = countByte c l := by
  induction l with
  | nil => rfl
  | cons a l ih =>
    unfold Lib.countByte at ih ⊢
    rw [List.count_cons, ih]
    simp only [countByte]
    cases hc : a == c <;> simp

theorem run_clone (P : Program) (t : TypeId) {w : World} {ρ : Nat} {ents : Array MapEntry} {clock : Nat} (hmap : w.heap[ρ]? = some (.map ents clock)) :
    (Extern.MapsClone.clone #[.iface t (.map (some ρ))]).run P w = .ok (.iface t (.map (some w.heap.size))) (w.alloc (.map ents clock)) := by
  have e : Extern.MapsClone.clone #[.iface t (.map (some ρ))] = (getObj ρ >>= fun o => match o with
      | .map entries clock => newObj (.map entries clock) >>= fun r => pure (Value.iface t (.map (some r)))
      | _ => stuck "maps.clone: a map expected") := rfl
  rw [e, Sem.run_bind, run_getMap P hmap]
  rfl

theorem snd_ext (H : HRel σ h w) {k : Ext} {args : List Value} {args' : Array Value} {v : Value} (ra : VRels σ args args'.toList) (e : extA h k args = some (v, h')) :
    ∃ w' σ' v', Step σ h w σ' h' w' ∧ (k.row args').run P w = .ok v' w' ∧ VRel σ' v v' := by
  obtain ⟨al⟩ := args'
  simp only at ra
  unfold extA at e
  split at e
  · rename_i s c
    injection e with e; injection e with e1 e2; subst e1; subst e2
    cases ra with
    | cons r1 ra => cases ra with
      | cons r2 ra => cases ra; cases r1; cases r2
                      refine ⟨w, σ, _, Step.refl H, ?_, .int _ _⟩
                      show (Extern.BytealgIndexByte.indexByte #[.string s, .int .u8 c]).run P w = _
                      rw [run_indexByte_string]
                      congr 2
                      unfold firstIdx
                      rw [findByte_spec]
                      rw [show (List.range (strBytes s).length).find? (fun j => (strBytes s)[j]! == c.toNat.toUInt8) = (List.range s.size).find? fun i => s[i]! == c.toNat.toUInt8 from find_bytes s _]
                      cases (List.range s.size).find? fun i => s[i]! == c.toNat.toUInt8 <;> simp
  · rename_i s c
    injection e with e; injection e with e1 e2; subst e1; subst e2
    cases ra with
    | cons r1 ra => cases ra with
      | cons r2 ra => cases ra; cases r1; cases r2
                      refine ⟨w, σ, _, Step.refl H, ?_, .int _ _⟩
                      have hf : Lib.countByte s.data.toList c.toNat.toUInt8 = countByte c.toNat.toUInt8 (strBytes s) := count_eq _ _
                      show (Extern.BytealgCount.count #[.string s, .int .u8 c]).run P w = _
                      rw [Lib.run_countString, hf]
  · rename_i t r
    split at e
    · rename_i es ho
      injection e with e; injection e with e1 e2; subst e1; subst e2
      cases ra with
      | cons r1 ra => cases ra; cases r1 with
        | iface _ r1 => cases r1 with
          | map hr =>
            rename_i ρ
            obtain ⟨_, ents, clock, hmap, hrel, hok⟩ := H.map _ _ _ _ hr ho
            have S := Step.new H (o := .map es) (x := .map ents clock) ⟨ents, clock, rfl, hrel, hok⟩
            refine ⟨_, _, .iface t (.map (some w.heap.size)), S, ?_, .iface t (.map (Emb.ext_same _ _ _ _))⟩
            show (Extern.MapsClone.clone #[.iface t (.map (some ρ))]).run P w = _
            exact run_clone P t hmap
    · cases e
  · cases e

theorem snd_call (hG : T.Good P) (H : HRel σ h w) {f : Nat} {args : List Value} {args' : Array Value} {nx : Next'} (ra : VRels σ args args'.toList) (e : callA T h f args = some (nx, h')) :
    OpRes P σ h w (callFunc f args') nx h' := by
  unfold callA at e
  split at e
  · rename_i k hk
    split at e
    · rename_i v h2 hext
      injection e with e; injection e with e1 e2; subst e1; subst e2
      obtain ⟨fn, q1, q2, q3, q4, q5⟩ := hG.ext f k hk
      obtain ⟨w', σ', v', S, r1, r2⟩ := snd_ext (P := P) H ra hext
      refine ⟨w', σ', S, ?_⟩
      rw [run_callFunc_extern q1 q3 (by rw [q2]; rfl) q4 q5, r1]
      exact .value r2
    · cases e
  · split at e
    · rename_i fn hfn
      split at e
      · rename_i c hc
        injection e with e; injection e with e1 e2; subst e1; subst e2
        obtain ⟨q1, q2⟩ := hG.ok.func _ _ hfn
        refine ⟨w, σ, Step.refl H, ?_⟩
        have : (callFunc f args').run P w = .ok (.enter f args') w := by
          simp only [callFunc, Sem.run_bind, run_program, Result.andThen_ok, q1, q2, Bool.false_eq_true, if_false, hc, Option.isNone, Sem.run_pure]
        rw [this]
        exact .enter ra
      · cases e
    · cases e

theorem two_args {args' : Array Value} {a b : Value} (h : VRels σ [a, b] args'.toList) : ∃ a' b', args' = #[a', b'] ∧ VRel σ a a' ∧ VRel σ b b' := by
  obtain ⟨al⟩ := args'
  simp only at h
  cases h with
  | cons h1 h => cases h with
    | cons h2 h => cases h; exact ⟨_, _, rfl, h1, h2⟩
theorem one_arg {args' : Array Value} {a : Value} (h : VRels σ [a] args'.toList) : ∃ a', args' = #[a'] ∧ VRel σ a a' := by
  obtain ⟨al⟩ := args'
  simp only at h
  cases h with
  | cons h1 h => cases h; exact ⟨_, rfl, h1⟩

theorem list_at {α : Type} {l : Array α} {a : α} {r : List α} (h : l.toList = a :: r) : l[0]? = some a ∧ l[1]? = r[0]? := by
  obtain ⟨al⟩ := l
  simp only at h
  subst h
  exact ⟨by simp, by simp⟩

theorem snd_builtin (hG : T.Good P) (H : HRel σ h w) {b : Builtin} {ats : Array TypeId} {ty : TypeId} {cs : Array Bool} {args : List Value} {args' : Array Value} {nx : Next'}
    (ra : VRels σ args args'.toList) (e : builtinA T h b ats.toList args = some (nx, h')) : OpRes P σ h w (builtin b ats ty cs args') nx h' := by
  unfold builtinA at e
  split at e
  · rename_i t ts x hts
    obtain ⟨x', rfl, rx⟩ := one_arg ra
    split at e
    · rename_i v hv
      injection e with e; injection e with e1 e2; subst e1; subst e2
      exact snd_len hG.ok H (list_at hts).1 rx hv
    · cases e
  · rename_i t ts s x hts
    obtain ⟨s', x', rfl, rs, rx⟩ := two_args ra
    obtain ⟨h0, h1⟩ := list_at hts
    have harg : ∀ o, (match ts with | u :: _ => (match T.und u with | some (.int _) => none | some _ => some () | none => none) | [] => some ()) = some o →
        ats[1]? = none ∨ ∃ u d, ats[1]? = some u ∧ T.und u = some d ∧ ∀ ik, d ≠ .int ik := by
      intro o ho
      cases ts with
      | nil => left; rw [h1]; rfl
      | cons u ts =>
        right
        simp only at ho
        cases hu : T.und u with
        | none => rw [hu] at ho; cases ho
        | some d =>
          refine ⟨u, d, by rw [h1]; rfl, hu, ?_⟩
          rintro ik rfl
          rw [hu] at ho; cases ho
    split at e
    · rename_i o ho
      split at e
      · rename_i v h2 hv
        injection e with e; injection e with e1 e2; subst e1; subst e2
        exact snd_append hG.ok H h0 (harg _ ho) rs rx hv
      · cases e
    · cases e
  · split at e
    · rename_i v hv
      injection e with e; injection e with e1 e2; subst e1; subst e2
      exact snd_max H ra hv
    · cases e
  · split at e
    · rename_i v hv
      injection e with e; injection e with e1 e2; subst e1; subst e2
      exact snd_min H ra hv
    · cases e
  · rename_i t ts m k hts
    obtain ⟨m', k', rfl, rm, rk⟩ := two_args ra
    split at e
    · rename_i kt el r hu
      split at e
      · rename_i es ho
        cases hf : keyFits T kt k with
        | false => rw [hf] at e; cases e
        | true =>
          rw [hf] at e; simp only [cond_true] at e
          split at e
          · rename_i es' hd
            injection e with e; injection e with e1 e2; subst e1; subst e2
            exact snd_delete hG.ok H (list_at hts).1 hu rm rk ho hf hd
          · cases e
      · cases e
    · cases e
  · rename_i t ts x hts
    obtain ⟨x', rfl, rx⟩ := one_arg ra
    split at e
    · rename_i el l c hu
      injection e with e; injection e with e1 e2; subst e1; subst e2
      exact snd_clear hG.ok H (list_at hts).1 hu rx (.inl ⟨rfl, rfl⟩)
    · rename_i el a n c hu
      cases hn : Nat.beq n 0 with
      | true =>
        rw [hn] at e; simp only [cond_true] at e
        injection e with e; injection e with e1 e2; subst e1; subst e2
        exact snd_clear hG.ok H (list_at hts).1 hu rx (.inr (.inl ⟨Nat.eq_of_beq_eq_true hn, rfl⟩))
      | false =>
        rw [hn] at e; simp only [cond_false] at e
        have := Nat.ne_of_beq_eq_false hn
        split at e
        · rename_i z hz
          split at e
          · rename_i h2 hw
            injection e with e; injection e with e1 e2; subst e1; subst e2
            exact snd_clear hG.ok H (list_at hts).1 hu rx (.inr (.inr ⟨a, z, rfl, by omega, hz, hw⟩))
          · cases e
        · cases e
    · cases e
  · rename_i t ts d s hts
    obtain ⟨d', s', rfl, rd, rs⟩ := two_args ra
    split at e
    · rename_i el base dl kap hu
      split at e
      · rename_i k hk
        split at e
        · rename_i sl cs hs
          cases hle : Nat.ble sl dl with
          | false => rw [hle] at e; cases e
          | true =>
            rw [hle] at e; simp only [cond_true] at e
            have hle' := Nat.le_of_ble_eq_true hle
            split at e
            · injection e with e; injection e with e1 e2; subst e1; subst e2
              exact snd_copy hG.ok H (list_at hts).1 hu hk rd rs hs hle' (.inl ⟨rfl, rfl⟩)
            · rename_i a
              cases hn : Nat.beq sl 0 with
              | true =>
                rw [hn] at e; simp only [cond_true] at e
                injection e with e; injection e with e1 e2; subst e1; subst e2
                exact snd_copy hG.ok H (list_at hts).1 hu hk rd rs hs hle' (.inr (.inl ⟨Nat.eq_of_beq_eq_true hn, rfl⟩))
              | false =>
                rw [hn] at e; simp only [cond_false] at e
                have := Nat.ne_of_beq_eq_false hn
                split at e
                · rename_i h2 hw
                  injection e with e; injection e with e1 e2; subst e1; subst e2
                  exact snd_copy hG.ok H (list_at hts).1 hu hk rd rs hs hle' (.inr (.inr ⟨a, rfl, by omega, hw⟩))
                · cases e
        · cases e
      · cases e
    · cases e
  · cases e

theorem snd_callOp (hG : T.Good P) (H : HRel σ h w) {e : Env} {a : Act} (F : FRel σ e a.tmps) (G : GRel σ T.nglob) {c : Call} {ty : TypeId} {nx : Next'} (ee : callOp T h e c = some (nx, h')) :
    OpRes P σ h w (do let d ← resolve a.eval c ty; invoke d.target d.args) nx h' := by
  obtain ⟨callee, cargs, ats⟩ := c
  unfold callOp at ee
  split at ee
  · cases ee
  · rename_i args hargs
    have ra := evs_rel F G hargs
    dsimp only at ee hargs ra
    cases callee with
    | builtin b =>
      dsimp only at ee
      have e1 : (do let d ← resolve a.eval ⟨.builtin b, cargs, ats⟩ ty; invoke d.target d.args : Sem Next) =
          builtin b ats ty (cargs.map fun | .const _ => true | _ => false) (cargs.map a.eval) := rfl
      rw [e1]
      exact snd_builtin hG H (by simpa using ra) ee
    | value x =>
      dsimp only at ee
      split at ee
      · rename_i f first captured hx
        have rx := ev_rel F G hx
        generalize hxv : a.eval x = xv at rx
        cases rx with
        | func _ r1 r2 =>
          rename_i first' captured'
          have rr : VRels σ (first.toList ++ args ++ captured.toList) (first' ++ (cargs.map a.eval) ++ captured').toList := by
            simp only [Array.toList_append, Array.toList_map]
            exact (r1.append ra).append r2
          have := snd_call hG H rr ee
          unfold OpRes at this ⊢
          simp only [resolve, Deferred.ofValue, hxv, Sem.run_bind, Sem.run_pure, Result.andThen_ok, invoke]
          exact this
      · cases ee
    | invoke r name =>
      dsimp only at ee
      split at ee
      · rename_i t v hr
        have rx := ev_rel F G hr
        generalize hxv : a.eval r = xv at rx
        cases rx with
        | iface _ rv =>
          rename_i v'
          split at ee
          · rename_i i hi
            split at ee
            · rename_i m hm
              cases hp : m.path.isEmpty with
              | false => rw [hp] at ee; cases ee
              | true =>
                rw [hp] at ee; simp only [cond_true] at ee
                split at ee
                · rename_i f el p hf hu
                  have rr : VRels σ (.pointer (some p) :: args) (#[v'] ++ (cargs.map a.eval)).toList := by
                    simp only [Array.toList_append, Array.toList_map]
                    exact .cons rv ra
                  have := snd_call hG H rr ee
                  unfold OpRes at this ⊢
                  have hpath : m.path.toList = [] := by simpa using hp
                  have hmeth : (method (P.types.size + Made.depth) t v' name).run P w = .ok (f, v') w := by
                    have : P.types.size + Made.depth = (P.types.size + (Made.depth - 1)) + 1 := by
                      have : 0 < Made.depth := by decide
                      omega
                    rw [this]
                    simp only [method, Sem.run_bind, run_info w (hG.ok.info _ _ hi), Result.andThen_ok, hm, hpath, follow, Sem.run_pure, hf, receiverAt, run_und w (hG.ok.und _ _ hu), Place.get]
                  have hex := extract_one (Value.iface t v') (cargs.map a.eval)
                  have h0 := first_one (Value.iface t v') (cargs.map a.eval)
                  simp only [resolve, hxv, Sem.run_bind, Sem.run_pure, Result.andThen_ok, invoke, h0, hex, callMethod, run_program, hmeth]
                  exact this
                · cases ee
            · cases ee
          · cases ee
      · cases ee

theorem opA_sound (hG : T.Good P) (H : HRel σ h w) {e : Env} {a : Act} (F : FRel σ e a.tmps) (G : GRel σ T.nglob) {o : Oper} {nx : Next'} (ee : opA T h e o.op = some (nx, h')) :
    OpRes P σ h w (execOp a.eval o) nx h' := by
  obtain ⟨dst, op, ty, pos, af, gd⟩ := o
  dsimp only at ee
  have hpure : ∀ {x : Operand} {v : Value}, ev T e x = some v → OpRes P σ h w (pure (.value (a.eval x))) (.value v) h := fun hx => ⟨w, σ, Step.refl H, .value (ev_rel F G hx)⟩
  unfold opA at ee
  cases op with
  | move x =>
    dsimp only at ee
    split at ee
    · rename_i v hv; injection ee with ee; injection ee with e1 e2; subst e1; subst e2; exact hpure hv
    · cases ee
  | assign x =>
    dsimp only at ee
    split at ee
    · rename_i v hv; injection ee with ee; injection ee with e1 e2; subst e1; subst e2; exact hpure hv
    · cases ee
  | pick c x y =>
    dsimp only at ee
    split at ee
    · rename_i b hc
      have rc := ev_rel F G hc
      generalize hcv : a.eval c = cv at rc
      cases rc
      split at ee
      · rename_i v hv; injection ee with ee; injection ee with e1 e2; subst e1; subst e2
        have : OpRes P σ h w (pure (.value (if b then a.eval x else a.eval y))) (.value v) h := by
          cases b with
          | true => exact ⟨w, σ, Step.refl H, .value (ev_rel F G hv)⟩
          | false => exact ⟨w, σ, Step.refl H, .value (ev_rel F G hv)⟩
        unfold OpRes at this ⊢
        simp only [execOp, hcv, Sem.run_bind, asBool, Sem.run_pure, Result.andThen_ok] at this ⊢
        exact this
      · cases ee
    · cases ee
  | alloc t =>
    dsimp only at ee
    split at ee
    · rename_i z hz
      injection ee with ee; injection ee with e1 e2; subst e1; subst e2
      exact snd_alloc hG.ok H hz
    · cases ee
  | box t x =>
    dsimp only at ee
    split at ee
    · rename_i v hv
      injection ee with ee; injection ee with e1 e2; subst e1; subst e2
      exact snd_box H t (ev_rel F G hv)
    · cases ee
  | build t ps =>
    dsimp only at ee
    split at ee
    · rename_i l hl
      split at ee
      · rename_i v hv
        injection ee with ee; injection ee with e1 e2; subst e1; subst e2
        exact snd_build hG.ok H F G hl hv
      · cases ee
    · cases ee
  | buildSlice t n ps =>
    dsimp only at ee
    split at ee
    · rename_i l el hl hu
      split at ee
      · rename_i k z hk hz
        cases hn : Nat.ble (n * k) 16777216 with
        | false => rw [hn] at ee; cases ee
        | true =>
          rw [hn] at ee; simp only [cond_true] at ee
          split at ee
          · rename_i cs hcs
            injection ee with ee; injection ee with e1 e2; subst e1; subst e2
            exact snd_buildSlice hG.ok H F G hl hu hk hz (Nat.le_of_ble_eq_true hn) hcs
          · cases ee
      · cases ee
    · cases ee
  | load t x =>
    dsimp only at ee
    split at ee
    · rename_i p hp
      split at ee
      · rename_i v hv
        injection ee with ee; injection ee with e1 e2; subst e1; subst e2
        have rx := ev_rel F G hp
        generalize hxv : a.eval x = xv at rx
        cases rx with
        | ptr off hb =>
          obtain ⟨v', r1, r2⟩ := run_loadVar hG.ok H hb hv
          have := resPure (P := P) H r1 r2
          unfold OpRes at this ⊢
          simp only [execOp, hxv, Instr.loadAt, Instr.sureAddr, Sem.run_bind, Sem.run_pure, Result.andThen_ok] at this ⊢
          exact this
      · cases ee
    · cases ee
  | store t x y =>
    dsimp only at ee
    split at ee
    · rename_i p v hp hv
      split at ee
      · rename_i h2 hs
        injection ee with ee; injection ee with e1 e2; subst e1; subst e2
        obtain ⟨w', r1, r2⟩ := run_storeVar hG.ok H (ev_rel F G hp) (ev_rel F G hv) hs
        exact resUnit r2 r1
      · cases ee
    · cases ee
  | nilCheck x =>
    dsimp only at ee
    split at ee
    · rename_i p hp
      injection ee with ee; injection ee with e1 e2; subst e1; subst e2
      have rx := ev_rel F G hp
      generalize hxv : a.eval x = xv at rx
      cases rx with
      | ptr off hb =>
        refine ⟨w, σ, Step.refl H, ?_⟩
        simp only [execOp, hxv, Sem.run_pure]
        exact .value (.ptr off hb)
    · rename_i f b c hp
      injection ee with ee; injection ee with e1 e2; subst e1; subst e2
      have rx := ev_rel F G hp
      generalize hxv : a.eval x = xv at rx
      cases rx with
      | func _ r1 r2 =>
        refine ⟨w, σ, Step.refl H, ?_⟩
        simp only [execOp, hxv, Sem.run_pure]
        exact .value (.func f r1 r2)
    · rename_i t v hp
      injection ee with ee; injection ee with e1 e2; subst e1; subst e2
      have rx := ev_rel F G hp
      generalize hxv : a.eval x = xv at rx
      cases rx with
      | iface _ r1 =>
        refine ⟨w, σ, Step.refl H, ?_⟩
        simp only [execOp, hxv, Sem.run_pure]
        exact .value (.iface t r1)
    · cases ee
  | binOp op t x y yt =>
    dsimp only at ee
    split at ee
    · rename_i u v hu hv
      split at ee
      · rename_i r hr
        injection ee with ee; injection ee with e1 e2; subst e1; subst e2
        exact snd_bin hG.ok hG.flat H (ev_rel F G hu) (ev_rel F G hv) hr
      · cases ee
    · cases ee
  | unOp op t x =>
    dsimp only at ee
    split at ee
    · rename_i u hu
      split at ee
      · rename_i v hv
        injection ee with ee; injection ee with e1 e2; subst e1; subst e2
        exact snd_un H (ev_rel F G hu) hv
      · cases ee
    · cases ee
  | convert s d x =>
    dsimp only at ee
    split at ee
    · rename_i u hu
      split at ee
      · rename_i v h2 hv
        injection ee with ee; injection ee with e1 e2; subst e1; subst e2
        exact snd_conv hG.ok H (ev_rel F G hu) hv
      · cases ee
    · cases ee
  | makeInterface t x =>
    dsimp only at ee
    split at ee
    · rename_i v d hv hd
      split at ee
      · cases ee
      · rename_i hne
        injection ee with ee; injection ee with e1 e2; subst e1; subst e2
        exact snd_iface hG.ok H (ev_rel F G hv) hd (fun m hm => hne m hm)
    · cases ee
  | makeFunc fn b c =>
    cases fn with
    | func f =>
      dsimp only at ee
      split at ee
      · rename_i b1 c1 hb hc
        injection ee with ee; injection ee with e1 e2; subst e1; subst e2
        have rb := evs_rel F G hb
        have rc := evs_rel F G hc
        refine ⟨w, σ, Step.refl H, ?_⟩
        simp only [execOp, Instr.makeFunc, Sem.run_bind, Sem.run_pure, Result.andThen_ok]
        exact .value (.func f (by simpa using rb) (by simpa using rc))
      · cases ee
    | _ => cases ee
  | makeMap t r =>
    cases r with
    | none =>
      dsimp only at ee
      injection ee with ee; injection ee with e1 e2; subst e1; subst e2
      exact snd_makeMap H
    | some _ => cases ee
  | makeSlice t l c =>
    dsimp only at ee
    split at ee
    · rename_i lk l0 ck c0 el hl hc hu
      split at ee
      · rename_i i z hi hz
        cases hcond : decide (0 ≤ l0) && decide (l0 ≤ c0) && Nat.blt (c0.toNat * (i.bytes + 1)) roomy with
        | false => rw [hcond] at ee; cases ee
        | true =>
          rw [hcond] at ee; simp only [cond_true] at ee
          injection ee with ee; injection ee with e1 e2; subst e1; subst e2
          simp only [Bool.and_eq_true, decide_eq_true_eq] at hcond
          exact snd_makeSlice hG.ok H (ev_rel F G hl) (ev_rel F G hc) hu hi hz hcond.1.1 hcond.1.2 (Nat.blt_eq.mp hcond.2)
      · cases ee
    · cases ee
  | slice t x lo hi mx =>
    dsimp only at ee
    split at ee
    · rename_i u lo' hi' mx' hu hlo hhi hmx
      split at ee
      · rename_i v hv
        injection ee with ee; injection ee with e1 e2; subst e1; subst e2
        exact snd_slice hG.ok H (ev_rel F G hu) (evo_rel F G hlo) (evo_rel F G hhi) (evo_rel F G hmx) hv
      · cases ee
    · cases ee
  | fieldAddr t x i =>
    dsimp only at ee
    split at ee
    · rename_i p fs hp hu
      split at ee
      · rename_i off n hpl
        cases hn : Nat.beq n 0 with
        | true => rw [hn] at ee; cases ee
        | false =>
          rw [hn] at ee; simp only [cond_false] at ee
          injection ee with ee; injection ee with e1 e2; subst e1; subst e2
          exact snd_fieldAddr hG.ok H (ev_rel F G hp) hu hpl (Nat.ne_of_beq_eq_false hn)
      · cases ee
    · cases ee
  | field t x i =>
    dsimp only at ee
    split at ee
    · rename_i cs fs hp hu
      split at ee
      · rename_i f hf
        split at ee
        · rename_i v hv
          injection ee with ee; injection ee with e1 e2; subst e1; subst e2
          exact snd_field hG.ok H (ev_rel F G hp) hu hf hv
        · cases ee
      · cases ee
    · cases ee
  | indexAddr t x i =>
    dsimp only at ee
    split at ee
    · rename_i p ik i0 n el hp hi hu
      split at ee
      · rename_i k hk
        cases hc : decide (0 ≤ i0) && decide (i0 < n) with
        | false => rw [hc] at ee; cases ee
        | true =>
          rw [hc] at ee; simp only [cond_true] at ee
          injection ee with ee; injection ee with e1 e2; subst e1; subst e2
          simp only [Bool.and_eq_true, decide_eq_true_eq] at hc
          exact snd_indexArr hG.ok H (ev_rel F G hp) (ev_rel F G hi) hu hk hc.1 hc.2
      · cases ee
    · rename_i p n kap ik i0 el hp hi hu
      split at ee
      · rename_i k hk
        cases hc : decide (0 ≤ i0) && decide (i0 < n) with
        | false => rw [hc] at ee; cases ee
        | true =>
          rw [hc] at ee; simp only [cond_true] at ee
          injection ee with ee; injection ee with e1 e2; subst e1; subst e2
          simp only [Bool.and_eq_true, decide_eq_true_eq] at hc
          exact snd_indexSlice hG.ok H (ev_rel F G hp) (ev_rel F G hi) hu hk hc.1 hc.2
      · cases ee
    · cases ee
  | index t x i =>
    dsimp only at ee
    split at ee
    · rename_i cs ik i0 n el hp hi hu
      split at ee
      · rename_i k hk
        cases hc : decide (0 ≤ i0) && decide (i0 < n) with
        | false => rw [hc] at ee; cases ee
        | true =>
          rw [hc] at ee; simp only [cond_true] at ee
          simp only [Bool.and_eq_true, decide_eq_true_eq] at hc
          split at ee
          · rename_i v hv
            injection ee with ee; injection ee with e1 e2; subst e1; subst e2
            exact snd_indexAgg hG.ok H (ev_rel F G hp) (ev_rel F G hi) hu hk hc.1 hc.2 hv
          · cases ee
      · cases ee
    · rename_i s ik i0 hp hi hu
      cases hc : decide (0 ≤ i0) with
      | false => rw [hc] at ee; cases ee
      | true =>
        rw [hc] at ee; simp only [cond_true] at ee
        split at ee
        · rename_i b hb
          injection ee with ee; injection ee with e1 e2; subst e1; subst e2
          exact snd_indexStr hG.ok H (ev_rel F G hp) (ev_rel F G hi) hu (of_decide_eq_true hc) hb
        · cases ee
    · cases ee
  | lookup t m k ok =>
    dsimp only at ee
    split at ee
    · rename_i m0 k0 hm hk
      split at ee
      · rename_i v hv
        injection ee with ee; injection ee with e1 e2; subst e1; subst e2
        exact snd_lookup hG.ok H (ev_rel F G hm) (ev_rel F G hk) hv
      · cases ee
    · cases ee
  | mapUpdate t m k v =>
    dsimp only at ee
    split at ee
    · rename_i m0 k0 v0 hm hk hv
      split at ee
      · rename_i h2 hs
        injection ee with ee; injection ee with e1 e2; subst e1; subst e2
        exact snd_update hG.ok H (ev_rel F G hm) (ev_rel F G hk) (ev_rel F G hv) hs
      · cases ee
    · cases ee
  | insert t m k v =>
    dsimp only at ee
    split at ee
    · rename_i m0 k0 v0 hm hk hv
      split at ee
      · rename_i h2 hs
        injection ee with ee; injection ee with e1 e2; subst e1; subst e2
        exact snd_update hG.ok H (ev_rel F G hm) (ev_rel F G hk) (ev_rel F G hv) hs
      · cases ee
    · cases ee
  | extract x i =>
    dsimp only at ee
    split at ee
    · rename_i vs hx
      split at ee
      · rename_i v hv
        injection ee with ee; injection ee with e1 e2; subst e1; subst e2
        exact snd_extract H (ev_rel F G hx) hv
      · cases ee
    · cases ee
  | typeAssert x xt t ok =>
    dsimp only at ee
    split at ee
    · rename_i u v d hx hd
      split at ee
      · cases ee
      · rename_i hne
        cases hb : Nat.beq u t with
        | false => rw [hb] at ee; cases ee
        | true =>
          rw [hb] at ee; simp only [cond_true] at ee
          have := Nat.eq_of_beq_eq_true hb; subst this
          injection ee with ee; injection ee with e1 e2; subst e1; subst e2
          exact snd_assert hG.ok H (ev_rel F G hx) hd (fun m hm => hne m hm)
    · cases ee
  | call c => exact snd_callOp hG H F G ee
  | _ => cases ee
end
end Go.AM
