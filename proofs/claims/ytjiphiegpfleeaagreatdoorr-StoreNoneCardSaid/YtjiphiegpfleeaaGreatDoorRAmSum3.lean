import Derived.Test.YtjiphiegpfleeaaGreatDoorRAmSum2
import Derived.Lib.SlKeysI
import Derived.ChangeKeys
namespace Go.AM

/-! sorting keys that are numbers -/
def insI (a : Int) : List Int → List Int
  | [] => [a]
  | b :: l => bif decide (b < a) then b :: insI a l else a :: b :: l
def sortI : List Int → List Int
  | [] => []
  | a :: l => insI a (sortI l)
def risesI : List Int → Bool
  | a :: b :: l => decide (a < b) && risesI (b :: l)
  | _ => true
def keysI : List (Value × Value) → Option (List Int)
  | [] => some []
  | (.int .i64 s, _) :: l => bif decide (-9223372036854775808 ≤ s) && decide (s < 9223372036854775808) then (match keysI l with | some r => some (s :: r) | none => none) else none
  | _ => none

theorem insI_perm (a : Int) : ∀ l, (insI a l).Perm (a :: l)
  | [] => .refl _
  | b :: l => by
    unfold insI
    cases decide (b < a) with
    | true => exact ((insI_perm a l).cons b).trans (.swap a b l)
    | false => exact .refl _
theorem sortI_perm : ∀ l, (sortI l).Perm l
  | [] => .refl _
  | a :: l => (insI_perm a (sortI l)).trans ((sortI_perm l).cons a)

theorem risesI_pairwise : ∀ {l : List Int}, risesI l = true → l.Pairwise (· < ·)
  | [], _ => .nil
  | [a], _ => by simp
  | a :: b :: l, h => by
    simp only [risesI, Bool.and_eq_true, decide_eq_true_eq] at h
    have ih := risesI_pairwise h.2
    refine List.Pairwise.cons (fun x hx => ?_) ih
    rcases List.mem_cons.1 hx with rfl | hx
    · exact h.1
    · exact Int.lt_trans h.1 ((List.pairwise_cons.1 ih).1 x hx)

theorem sortedI_eq {l m : List Int} (h : risesI (sortI l) = true) (p : m.Perm l) : m.mergeSort leI = sortI l := by
  have tr : ∀ a b c : Int, leI a b = true → leI b c = true → leI a c = true := fun a b c h1 h2 => by simp only [leI, decide_eq_true_eq] at *; exact Int.le_trans h1 h2
  have to : ∀ a b : Int, (leI a b || leI b a) = true := fun a b => by simp only [leI, Bool.or_eq_true, decide_eq_true_eq]; exact Int.le_total a b
  refine List.Perm.eq_of_pairwise (le := fun a b => leI a b = true) (fun a b _ _ h1 h2 => ?_) (List.pairwise_mergeSort tr to m) ((risesI_pairwise h).imp fun h => ?_) (((List.mergeSort_perm m leI).trans p).trans (sortI_perm l).symm)
  · simp only [leI, decide_eq_true_eq] at h1 h2
    exact Int.le_antisymm h1 h2
  · simp only [leI, decide_eq_true_eq]
    exact Int.le_of_lt h

/-- the keys of a map, sorted; g: the iterator's function -/
def sumSortedI (gs : Nat → Bool) (args : List Value) (h : AHeap) : Option (Value × AHeap) :=
  match args with
  | [.func (.func g) ⟨[]⟩ ⟨[.pointer (some ⟨b, 0, none⟩)]⟩] =>
    match gs g, h.objs.get b with
    | true, some (.var (.map (some r) :: _)) => match mapOf h (.map (some r)) with
      | some es => match keysI es with
        | some ks => bif risesI (sortI ks) && Nat.blt ks.length 4294967296 then some (rowOfS ((sortI ks).map (Value.int .i64)) h) else none
        | none => none
      | none => none
    | _, _ => none
  | _ => none

theorem keysI_rel {σ : Emb} : ∀ {l : List (Value × Value)} {l' : List MapEntry} {ks : List Int}, ERels σ l l' → keysI l = some ks →
    l'.map (·.key) = ks.map Go.encZ ∧ (∀ k ∈ ks, -9223372036854775808 ≤ k ∧ k < 9223372036854775808)
  | _, _, ks, .nil, h => by
    simp only [keysI, Option.some.injEq] at h; subst h
    exact ⟨rfl, fun k hk => by cases hk⟩
  | _, _, ks, .cons (e := e) hk hv t, h => by
    unfold keysI at h
    split at h
    · rename_i heq; cases heq
    · rename_i s v l heq
      injection heq with h1 h2
      injection h1 with h1 h1'
      subst h1; subst h2
      cases hs : decide (-9223372036854775808 ≤ s) && decide (s < 9223372036854775808) with
      | false => rw [hs] at h; cases h
      | true =>
        rw [hs] at h
        simp only [cond_true] at h
        split at h
        · rename_i r hr
          injection h with h; subst h
          obtain ⟨q1, q2⟩ := keysI_rel t hr
          obtain ⟨k1, v1, b1⟩ := e
          simp only at hk; cases hk
          refine ⟨by simp only [List.map_cons, q1], fun k hk => ?_⟩
          rcases List.mem_cons.1 hk with rfl | hk
          · simpa using hs
          · exact q2 k hk
        · cases h
    · cases h

/-- a map of the abstract heap, as the shelf speaks of it -/
theorem ownsI_of {σ : Emb} {P : Program} {k : Nat} (hk : P.underlying k = some (.int .i64)) {w : World} {ρ : Nat} {es : List (Value × Value)} {ents : Array MapEntry} {clock : Nat} {ks : List Int}
    (hm : w.heap[ρ]? = some (.map ents clock)) (hE : ERels σ es ents.toList) (hok : MapOk ents.toList clock) (hks : keysI es = some ks) (hr : risesI (sortI ks) = true) (hlen : ks.length < 4294967296) :
    ∃ D0 : DataW Unit, w.ownsMap P k (fun _ => some (.lit (.bool true), [])) ρ ents.size D0 ∧ (intKeys D0).Perm ks ∧ Maps.size D0 = ks.length := by
  obtain ⟨hkey, hsz⟩ := keysI_rel hE hks
  have hll : ents.size = ks.length := by
    have := congrArg List.length hkey
    simpa using this
  have hrd : ∀ x ∈ ents.toList, ∃ s : Int, x.key = Go.encZ s ∧ Go.WideElems.rd P k (fun _ => some ((.lit (.bool true) : DataW Unit), [])) x = some (.int .i64 s, .lit (.bool true)) := by
    intro x hx
    have : x.key ∈ ents.toList.map (·.key) := List.mem_map.2 ⟨x, hx, rfl⟩
    rw [hkey] at this
    obtain ⟨s, hs, he⟩ := List.mem_map.1 this
    refine ⟨s, he.symm, ?_⟩
    obtain ⟨xk, xv, xb⟩ := x
    simp only at he; subst he
    refine Go.WideElems.rd_mk (R := fun _ => some ((.lit (.bool true) : DataW Unit), [])) (yv := (.lit (.bool true), [])) ?_ rfl
    have hr := hsz s hs
    rw [keyOf_int hk]
    have hw : (Lit.int .i64 s).wf = true := by
      have e1 : IntKind.i64.min = -9223372036854775808 := by decide
      have e2 : IntKind.i64.max = 9223372036854775807 := by decide
      simp only [Lit.wf, e1, e2, Bool.and_eq_true, decide_eq_true_eq]
      omega
    simp only [mapKey, hk, Go.encZ, hw, and_self, if_true]
  refine ⟨_, ⟨ents, clock, hm, ⟨?_, ⟨hok.below, hok.nodup, ?_⟩, fun x hx => ?_⟩, Nat.le_refl _, rfl⟩, ?_, ?_⟩
  · have hm : maxLen = 9223372036854775807 := by decide
    rw [hm, hll]; omega
  · rw [hkey]
    have h1 : (sortI ks).Nodup := List.Pairwise.imp (S := fun a b => a ≠ b) (fun {a b} (h : a < b) (e : a = b) => by subst e; exact Int.lt_irrefl _ h) (risesI_pairwise hr)
    have h2 : ks.Nodup := (sortI_perm ks).nodup_iff.1 h1
    refine List.pairwise_map.2 (h2.imp fun h e => h (encZ_inj e))
  · obtain ⟨s, _, h2⟩ := hrd x hx
    exact ⟨_, h2⟩
  · show (((ents.toList.map _).foldr DataW.insert []).map fun p => Go.intOf p.1).Perm ks
    refine ((perm_foldr _).map _).trans ?_
    have : ((ents.toList.map (Go.WideElems.rg P k fun _ => some ((.lit (.bool true) : DataW Unit), []))).map fun p => Go.intOf p.1) = ks := by
      have e2 : ∀ l : List MapEntry, (∀ x ∈ l, x ∈ ents.toList) → ((l.map (Go.WideElems.rg P k fun _ => some ((.lit (.bool true) : DataW Unit), []))).map fun p => Go.encZ (Go.intOf p.1)) = l.map (·.key) := by
        intro l
        induction l with
        | nil => intro _; rfl
        | cons x l ih =>
          intro hl
          obtain ⟨s, h1, h2⟩ := hrd x (hl x (List.mem_cons.2 (.inl rfl)))
          simp only [List.map_cons, ih fun y hy => hl y (List.mem_cons.2 (.inr hy)), Go.WideElems.rg_of h2, h1]
          rfl
      have e3 := e2 ents.toList fun x hx => hx
      rw [hkey] at e3
      have inj : ∀ (a b : List Int), a.map Go.encZ = b.map Go.encZ → a = b := by
        intro a
        induction a with
        | nil => intro b hb; cases b with
          | nil => rfl
          | cons y b => cases hb
        | cons x a ih => intro b hb; cases b with
          | nil => cases hb
          | cons y b =>
            simp only [List.map_cons, List.cons.injEq] at hb
            rw [encZ_inj hb.1, ih b hb.2]
      refine inj _ _ ?_
      rw [← e3]
      simp only [List.map_map]
      rfl
    rw [this]
  · show ((ents.toList.map _).foldr DataW.insert []).length = ks.length
    rw [(perm_foldr _).length_eq, List.length_map, ← hll, Array.length_toList]

end Go.AM
