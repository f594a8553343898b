import Derived.Test.YtjiphiegpfleeaaGreatDoorRAmSum3
import Derived.Maps.RangeRun
namespace Go.AM
open Go.Proofs (encStr)

/-! the keys that an index of four maps holds -/
def onOf (v : Value) : Option Bool :=
  match v with
  | .agg ⟨[.int .i64 _, .int .i64 _, .int .i64 _, .int .i64 _, .bool b]⟩ => some b
  | _ => none
/-- the keys whose entries are on -/
def onKeys : List (Value × Value) → Option (List (List UInt8))
  | [] => some []
  | (.string s, v) :: l => match onOf v, onKeys l with
    | some b, some r => some (bif b then strBytes s :: r else r)
    | _, _ => none
  | _ => none
/-- one of the four maps: its keys that are on; its keys are told apart -/
def stripe (h : AHeap) (v : Value) : Option (List (List UInt8)) :=
  match v with
  | .map (some r) => match mapOf h (.map (some r)) with
    | some es => match keysS es, onKeys es with
      | some ks, some l => bif risesS (sortS ks) then some l else none
      | _, _ => none
    | none => none
  | _ => none
def sumKeys (args : List Value) (h : AHeap) : Option (Value × AHeap) :=
  match args with
  | [.pointer (some a)] => match h.cells a.block with
    | some cs => match nth cs a.off, nth cs (a.off + 1), nth cs (a.off + 2), nth cs (a.off + 3) with
      | some m0, some m1, some m2, some m3 => match stripe h m0, stripe h m1, stripe h m2, stripe h m3 with
        | some l0, some l1, some l2, some l3 =>
          let ks := l0 ++ l1 ++ l2 ++ l3
          bif risesS (sortS ks) && Nat.blt ks.length 4294967296 then some (rowOfS ((sortS ks).map encS) h) else none
        | _, _, _, _ => none
      | _, _, _, _ => none
    | none => none
  | _ => none

/-- an entry of a map of the model: on? -/
def entOn (e : MapEntry) : Bool := match onOf e.val with | some b => b | none => false
/-- the keys that are on among those that have been handed out -/
def onSeen (es : List MapEntry) (seen : Array Nat) : List Value := (es.filter fun e => seen.contains e.born && entOn e).map (·.key)

theorem onSeen_none (es : List MapEntry) : onSeen es #[] = [] := by
  unfold onSeen
  have : (es.filter fun e => (#[] : Array Nat).contains e.born && entOn e) = [] := by
    rw [List.filter_eq_nil_iff]
    intro e _; simp
  rw [this]; rfl
theorem onSeen_all (es : List MapEntry) (seen : Array Nat) (h : ∀ x ∈ es, seen.contains x.born = true) : onSeen es seen = (es.filter entOn).map (·.key) := by
  unfold onSeen
  congr 1
  refine List.filter_congr fun x hx => ?_
  rw [h x hx, Bool.true_and]
theorem filter_push (seen : Array Nat) (e : MapEntry) (hs : seen.contains e.born = false) : ∀ (es : List MapEntry), (es.map (·.born)).Nodup → e ∈ es →
    (es.filter fun x => (seen.push e.born).contains x.born && entOn x).Perm (bif entOn e then e :: (es.filter fun x => seen.contains x.born && entOn x) else (es.filter fun x => seen.contains x.born && entOn x))
  | x :: l, hn, he => by
    have hn' : x.born ∉ l.map (·.born) ∧ (l.map (·.born)).Nodup := List.nodup_cons.1 hn
    rcases List.mem_cons.1 he with rfl | h
    · have e1 : (l.filter fun x => (seen.push e.born).contains x.born && entOn x) = l.filter fun x => seen.contains x.born && entOn x := by
        refine List.filter_congr fun y hy => ?_
        have : (y.born == e.born) = false := by
          cases hc : y.born == e.born with
          | false => rfl
          | true => exact absurd (beq_iff_eq.1 hc ▸ List.mem_map.2 ⟨y, hy, rfl⟩) hn'.1
        rw [contains_push, this, Bool.or_false]
      cases ho : entOn e with
      | true =>
        simp only [contains_push] at e1
        simp only [List.filter_cons, contains_push, beq_self_eq_true, Bool.or_true, ho, Bool.and_self, if_true, e1, cond_true, hs, Bool.false_and, Bool.false_eq_true, if_false]; exact .refl _
      | false => simp only [List.filter_cons, ho, Bool.and_false, Bool.false_eq_true, if_false, e1, cond_false]; exact .refl _
    · have hx : (x.born == e.born) = false := by
        cases hc : x.born == e.born with
        | false => rfl
        | true => exact absurd (by rw [beq_iff_eq.1 hc]; exact List.mem_map.2 ⟨e, h, rfl⟩) hn'.1
      have ih := filter_push seen e hs l hn'.2 h
      simp only [contains_push] at ih
      simp only [List.filter_cons, contains_push, hx, Bool.or_false]
      cases ho : entOn e with
      | true =>
        rw [ho] at ih
        simp only [cond_true] at ih ⊢
        split
        · exact (ih.cons x).trans (.swap e x _)
        · exact ih
      | false =>
        rw [ho] at ih
        simp only [cond_false] at ih ⊢
        split
        · exact ih.cons x
        · exact ih
theorem onSeen_push (seen : Array Nat) (e : MapEntry) (hs : seen.contains e.born = false) (es : List MapEntry) (hn : (es.map (·.born)).Nodup) (he : e ∈ es) :
    (onSeen es (seen.push e.born)).Perm (bif entOn e then e.key :: onSeen es seen else onSeen es seen) := by
  have := (filter_push seen e hs es hn he).map (·.key)
  unfold onSeen
  cases ho : entOn e with
  | true => rw [ho] at this; exact this
  | false => rw [ho] at this; exact this

theorem onOf_rel {σ : Emb} {v v' : Value} (r : VRel σ v v') {b : Bool} (h : onOf v = some b) : ∃ c0 c1 c2 c3 : Int, v' = .agg #[.int .i64 c0, .int .i64 c1, .int .i64 c2, .int .i64 c3, .bool b] := by
  unfold onOf at h
  split at h
  · injection h with h; subst h
    cases r with
    | agg r =>
      rename_i a'
      obtain ⟨l⟩ := a'
      cases r with
      | cons r0 r => cases r with
        | cons r1 r => cases r with
          | cons r2 r => cases r with
            | cons r3 r => cases r with
              | cons r4 r =>
                cases r; cases r0; cases r1; cases r2; cases r3; cases r4
                exact ⟨_, _, _, _, rfl⟩
  · cases h

theorem keysS_mem (s : ByteArray) (v : Value) : ∀ (m : List (Value × Value)) (q : List (List UInt8)), keysS m = some q → (.string s, v) ∈ m → strBytes s ∈ q := by
  intro m
  induction m with
  | nil => intro q _ hh; cases hh
  | cons x m ih =>
    intro q hq hh
    obtain ⟨xk, xv⟩ := x
    unfold keysS at hq
    split at hq
    · rename_i heq; cases heq
    · rename_i t' u' l' heq
      injection heq with q1 q2
      injection q1 with q1 q1'
      subst q1; subst q1'; subst q2
      cases ht : Nat.ble t'.size 4294967296 with
      | false => rw [ht] at hq; cases hq
      | true =>
        rw [ht] at hq
        simp only [cond_true] at hq
        split at hq
        · rename_i r' hr'
          injection hq with hq; subst hq
          rcases List.mem_cons.1 hh with hh | hh
          · injection hh with hh _
            injection hh with hh
            rw [hh]; exact List.mem_cons.2 (.inl rfl)
          · exact List.mem_cons.2 (.inr (ih _ hr' hh))
        · cases hq
    · cases hq
theorem findA_string (s : ByteArray) (v : Value) : ∀ (es : List (Value × Value)) (ks : List (List UInt8)), keysS es = some ks → ks.Nodup → (.string s, v) ∈ es → findA (.string s) es = some (some v) := by
  intro es
  induction es with
  | nil => intro ks _ _ h; cases h
  | cons x l ih =>
    intro ks hk hn h
    obtain ⟨xk, xv⟩ := x
    unfold keysS at hk
    split at hk
    · rename_i heq; cases heq
    · rename_i t u l' heq
      injection heq with q1 q2
      injection q1 with q1 q1'
      subst q1; subst q1'; subst q2
      cases hs : Nat.ble t.size 4294967296 with
      | false => rw [hs] at hk; cases hk
      | true =>
        rw [hs] at hk
        simp only [cond_true] at hk
        split at hk
        · rename_i r hr
          injection hk with hk; subst hk
          rw [List.nodup_cons] at hn
          unfold findA
          simp only [scalarEq]
          rcases List.mem_cons.1 h with h | h
          · injection h with h1 h2
            injection h1 with h1
            subst h1; subst h2
            simp
          · have := keysS_mem s v l r hr h
            have hne : (strBytes s == strBytes t) = false := by
              cases hc : strBytes s == strBytes t with
              | false => rfl
              | true => exact absurd (eq_of_beq hc ▸ this) hn.1
            simp only [hne]
            exact ih r hr hn.2 h
        · cases hk
    · cases hk
section
variable {P : Program} {T : Tab} {σ : Emb} {h h' : AHeap} {w : World}
theorem run_lookup (hT : T.Ok P) (H : HRel σ h w) {t : Nat} {m m' k k' v : Value} {ok : Bool} (rm : VRel σ m m') (rk : VRel σ k k') (e : lookupA T h t m k ok = some v) :
    ∃ v', VRel σ v v' ∧ (Instr.lookup t m' k' ok).run P w = .ok v' w := by
  unfold lookupA at e
  split at e
  · rename_i kt el es hu hes
    cases hf : keyFits T kt k with
    | false => rw [hf] at e; cases e
    | true =>
      rw [hf] at e; simp only [cond_true] at e
      have hkk := keyFits_rel hf rk; subst hkk
      obtain ⟨d, hd⟩ := keyFits_und hf
      -- what the look-up comes to, the entries at hand
      have key : ∀ (ents : Array MapEntry) (es : List (Value × Value)), ERels σ es ents.toList → (match findA k' es, T.zero el with
            | some (some v), _ => some (bif ok then Value.tuple #[v, .bool true] else v)
            | some none, some z => some (bif ok then .tuple #[z, .bool false] else z)
            | _, _ => none) = some v →
          ∃ v', VRel σ v v' ∧ (do
            Instr.checkKey ents.isEmpty 10000 kt k'
            let (v, ok') ← match ← Instr.findKey kt k' ents.toList with
              | some (_, v) => pure (v, true)
              | none => pure (← zeroValue el, false)
            pure (if ok then .tuple #[v, .bool ok'] else v) : Sem Value).run P w = .ok v' w := by
        intro ents es hr e
        have hck := keyFits_check hT hf w ents.isEmpty 9999
        split at e
        · rename_i v0 _ hfind
          rcases find_rel hd hf 0 hr hfind with ⟨h1, _⟩ | ⟨v1, v2, j, h1, h2, h3⟩
          · cases h1
          · injection h1 with h1; subst h1
            injection e with e; subst e
            refine ⟨bif ok then .tuple #[v2, .bool true] else v2, ?_, ?_⟩
            · cases ok
              · exact h3
              · exact .tuple (.cons h3 (.cons (.bool _) .nil))
            · simp only [Sem.run_bind, hck, Result.andThen_ok, Instr.findKey, run_und w (hT.und _ _ hd), h2, Sem.run_pure]
              cases ok <;> rfl
        · rename_i z hfind hz
          rcases find_rel hd hf 0 hr hfind with ⟨_, h2⟩ | ⟨v1, v2, j, h1, _⟩
          · obtain ⟨rz, cz⟩ := run_zero hT w hz
            injection e with e; subst e
            refine ⟨bif ok then .tuple #[z, .bool false] else z, ?_, ?_⟩
            · cases ok
              · exact .const cz
              · exact .tuple (.cons (.const cz) (.cons (.bool _) .nil))
            · simp only [Sem.run_bind, hck, Result.andThen_ok, Instr.findKey, run_und w (hT.und _ _ hd), h2, Sem.run_pure, rz]
              cases ok <;> rfl
          · cases h1
        · cases e
      rcases mapOf_rel H rm hes with ⟨rfl, rfl⟩ | ⟨ρ, ents, clock, rfl, hmap, hr, _⟩
      · obtain ⟨v', r1, r2⟩ := key #[] [] .nil e
        refine ⟨v', r1, ?_⟩
        simp only [Instr.lookup, Sem.run_bind, run_und w (hT.und _ _ hu), Result.andThen_ok, Sem.run_pure] at r2 ⊢
        exact r2
      · obtain ⟨v', r1, r2⟩ := key ents es hr e
        refine ⟨v', r1, ?_⟩
        simp only [Instr.lookup, Sem.run_bind, run_und w (hT.und _ _ hu), Result.andThen_ok, run_getMap P hmap, Sem.run_pure] at r2 ⊢
        exact r2
  · cases e

end
end Go.AM
