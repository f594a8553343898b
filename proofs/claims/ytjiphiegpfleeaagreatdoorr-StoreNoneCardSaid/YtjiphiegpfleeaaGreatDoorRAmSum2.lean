import Derived.Test.YtjiphiegpfleeaaGreatDoorRAmSum1
import Derived.Sort.KeysCollected
import Derived.Sort.Walk0
import Derived.StringKeys
import Derived.Maps.Own
import Derived.Below
namespace Go.AM
open Go.Proofs (encStr)

/-! sorting keys -/
def insS (a : List UInt8) : List (List UInt8) → List (List UInt8)
  | [] => [a]
  | b :: l => bif Op.bytesLess b a then b :: insS a l else a :: b :: l
def sortS : List (List UInt8) → List (List UInt8)
  | [] => []
  | a :: l => insS a (sortS l)
def risesS : List (List UInt8) → Bool
  | a :: b :: l => Op.bytesLess a b && risesS (b :: l)
  | _ => true
def keysS : List (Value × Value) → Option (List (List UInt8))
  | [] => some []
  | (.string s, _) :: l => bif Nat.ble s.size 4294967296 then (match keysS l with | some r => some (strBytes s :: r) | none => none) else none
  | _ => none

theorem insS_perm (a : List UInt8) : ∀ l, (insS a l).Perm (a :: l)
  | [] => .refl _
  | b :: l => by
    unfold insS
    cases Op.bytesLess b a with
    | true => exact ((insS_perm a l).cons b).trans (.swap a b l)
    | false => exact .refl _
theorem sortS_perm : ∀ l, (sortS l).Perm l
  | [] => .refl _
  | a :: l => (insS_perm a (sortS l)).trans ((sortS_perm l).cons a)

theorem risesS_pairwise : ∀ {l : List (List UInt8)}, risesS l = true → l.Pairwise (· < ·)
  | [], _ => .nil
  | [a], _ => by simp
  | a :: b :: l, h => by
    simp only [risesS, Bool.and_eq_true, Go.Proofs.bytesLess_eq, decide_eq_true_eq] at h
    have ih := risesS_pairwise h.2
    refine List.Pairwise.cons (fun x hx => ?_) ih
    rcases List.mem_cons.1 hx with rfl | hx
    · exact h.1
    · exact List.lt_trans h.1 ((List.pairwise_cons.1 ih).1 x hx)

theorem sorted_eq {l m : List (List UInt8)} (h : risesS (sortS l) = true) (p : m.Perm l) : m.mergeSort leB = sortS l := by
  have tr : ∀ a b c : List UInt8, leB a b = true → leB b c = true → leB a c = true := fun a b c h1 h2 => by simp only [leB, decide_eq_true_eq] at *; exact List.le_trans h1 h2
  have to : ∀ a b : List UInt8, (leB a b || leB b a) = true := fun a b => by simp only [leB, Bool.or_eq_true, decide_eq_true_eq]; exact List.le_total a b
  refine List.Perm.eq_of_pairwise (le := fun a b => leB a b = true) (fun a b _ _ h1 h2 => ?_) (List.pairwise_mergeSort tr to m) ((risesS_pairwise h).imp fun h => ?_) (((List.mergeSort_perm m leB).trans p).trans (sortS_perm l).symm)
  · simp only [leB, decide_eq_true_eq] at h1 h2
    exact List.le_antisymm h1 h2
  · simp only [leB, decide_eq_true_eq]
    exact List.le_of_lt h

def rowOfS (l : List Value) (h : AHeap) : Value × AHeap :=
  match l with
  | [] => (.slice none 0 0, h)
  | _ => match h.newRow 1 l with | (id, h) => (.slice (some ⟨id, 0, none⟩) l.length l.length, h)

def encS (l : List UInt8) : Value := .string ⟨l.toArray⟩

/-- the keys of a map, sorted; g: the iterator's function -/
def sumSorted (gs : Nat → Bool) (args : List Value) (h : AHeap) : Option (Value × AHeap) :=
  match args with
  | [.func (.func g) ⟨[]⟩ ⟨[.pointer (some ⟨b, 0, none⟩)]⟩] =>
    match gs g, h.objs.get b with
    | true, some (.var (.map (some r) :: _)) => match mapOf h (.map (some r)) with
      | some es => match keysS es with
        | some ks => bif risesS (sortS ks) && Nat.blt ks.length 4294967296 then some (rowOfS ((sortS ks).map encS) h) else none
        | none => none
      | none => none
    | _, _ => none
  | _ => none

theorem keysS_rel {σ : Emb} : ∀ {l : List (Value × Value)} {l' : List MapEntry} {ks : List (List UInt8)}, ERels σ l l' → keysS l = some ks →
    l'.map (·.key) = ks.map encStr ∧ (∀ k ∈ ks, k.length ≤ 4294967296)
  | _, _, ks, .nil, h => by
    simp only [keysS, Option.some.injEq] at h; subst h
    exact ⟨rfl, fun k hk => by cases hk⟩
  | _, _, ks, .cons (e := e) hk hv t, h => by
    unfold keysS at h
    split at h
    · rename_i heq; cases heq
    · rename_i s v l heq
      injection heq with h1 h2
      injection h1 with h1 h1'
      subst h1; subst h2
      cases hs : Nat.ble s.size 4294967296 with
      | false => rw [hs] at h; cases h
      | true =>
        rw [hs] at h
        simp only [cond_true] at h
        split at h
        · rename_i r hr
          injection h with h; subst h
          obtain ⟨q1, q2⟩ := keysS_rel t hr
          obtain ⟨k1, v1, b1⟩ := e
          simp only at hk; cases hk
          refine ⟨by simp only [List.map_cons, q1]; rfl, fun k hk => ?_⟩
          rcases List.mem_cons.1 hk with rfl | hk
          · have := Nat.le_of_ble_eq_true hs
            unfold strBytes
            rw [Array.length_toList]
            exact this
          · exact q2 k hk
        · cases h
    · cases h

theorem perm_insert {H : Type} (x : Lit × DataW H) : ∀ l, (DataW.insert x l).Perm (x :: l)
  | [] => .refl _
  | y :: l => by
    unfold DataW.insert
    split
    · exact .refl _
    · exact ((perm_insert x l).cons y).trans (.swap x y l)
theorem perm_foldr {H : Type} : ∀ l : List (Lit × DataW H), (l.foldr DataW.insert []).Perm l
  | [] => .refl _
  | x :: l => (perm_insert x _).trans ((perm_foldr l).cons x)

/-- a map of the abstract heap, as the shelf speaks of it -/
theorem owns_of {σ : Emb} {P : Program} {k : Nat} (hk : P.underlying k = some .string) {w : World} {ρ : Nat} {es : List (Value × Value)} {ents : Array MapEntry} {clock : Nat} {ks : List (List UInt8)}
    (hm : w.heap[ρ]? = some (.map ents clock)) (hE : ERels σ es ents.toList) (hok : MapOk ents.toList clock) (hks : keysS es = some ks) (hr : risesS (sortS ks) = true) (hlen : ks.length < 4294967296) :
    ∃ D0 : DataW Unit, w.ownsMap P k (fun _ => some (.lit (.bool true), [])) ρ ents.size D0 ∧ (strKeys D0).Perm ks ∧ Maps.size D0 = ks.length := by
  obtain ⟨hkey, hsz⟩ := keysS_rel hE hks
  have hll : ents.size = ks.length := by
    have := congrArg List.length hkey
    simpa using this
  have hrd : ∀ x ∈ ents.toList, ∃ s : List UInt8, x.key = encStr s ∧ Go.WideElems.rd P k (fun _ => some ((.lit (.bool true) : DataW Unit), [])) x = some (.string s, .lit (.bool true)) := by
    intro x hx
    have : x.key ∈ ents.toList.map (·.key) := List.mem_map.2 ⟨x, hx, rfl⟩
    rw [hkey] at this
    obtain ⟨s, hs, he⟩ := List.mem_map.1 this
    refine ⟨s, he.symm, ?_⟩
    obtain ⟨xk, xv, xb⟩ := x
    simp only at he; subst he
    refine Go.WideElems.rd_mk (R := fun _ => some ((.lit (.bool true) : DataW Unit), [])) (yv := (.lit (.bool true), [])) ?_ rfl
    have : keyOf P k (.string ⟨s.toArray⟩) = some (.string (ByteArray.mk s.toArray).data.toList) := Go.WideMaps.keyOf_string_mk hk (by
      show s.toArray.size ≤ maxLen
      have := hsz s hs
      have hm : maxLen = 9223372036854775807 := by decide
      rw [hm]; simp only [List.size_toArray]; omega)
    simpa using this
  refine ⟨_, ⟨ents, clock, hm, ⟨?_, ⟨hok.below, hok.nodup, ?_⟩, fun x hx => ?_⟩, Nat.le_refl _, rfl⟩, ?_, ?_⟩
  · have hm : maxLen = 9223372036854775807 := by decide
    rw [hm, hll]; omega
  · rw [hkey]
    have h1 : (sortS ks).Nodup := List.Pairwise.imp (S := fun a b => a ≠ b) (fun {a b} (h : a < b) (e : a = b) => by subst e; exact List.lt_irrefl _ h) (risesS_pairwise hr)
    have h2 : ks.Nodup := (sortS_perm ks).nodup_iff.1 h1
    refine List.pairwise_map.2 (h2.imp fun h e => h (encStr_inj e))
  · obtain ⟨s, _, h2⟩ := hrd x hx
    exact ⟨_, h2⟩
  · show (((ents.toList.map _).foldr DataW.insert []).map fun p => Go.strOf p.1).Perm ks
    refine ((perm_foldr _).map _).trans ?_
    have : ((ents.toList.map (Go.WideElems.rg P k fun _ => some ((.lit (.bool true) : DataW Unit), []))).map fun p => Go.strOf p.1) = ks := by
      have e2 : ∀ l : List MapEntry, (∀ x ∈ l, x ∈ ents.toList) → ((l.map (Go.WideElems.rg P k fun _ => some ((.lit (.bool true) : DataW Unit), []))).map fun p => encStr (Go.strOf p.1)) = l.map (·.key) := by
        intro l
        induction l with
        | nil => intro _; rfl
        | cons x l ih =>
          intro hl
          obtain ⟨s, h1, h2⟩ := hrd x (hl x (List.mem_cons.2 (.inl rfl)))
          simp only [List.map_cons, ih fun y hy => hl y (List.mem_cons.2 (.inr hy)), Go.WideElems.rg_of h2, h1]
          rfl
      have e3 := e2 ents.toList fun x hx => hx
      rw [hkey] at e3
      have inj : ∀ (a b : List (List UInt8)), a.map encStr = b.map encStr → a = b := by
        intro a
        induction a with
        | nil => intro b hb; cases b with
          | nil => rfl
          | cons y b => cases hb
        | cons x a ih => intro b hb; cases b with
          | nil => cases hb
          | cons y b =>
            simp only [List.map_cons, List.cons.injEq] at hb
            rw [encStr_inj hb.1, ih b hb.2]
      refine inj _ _ ?_
      rw [← e3]
      simp only [List.map_map]
      rfl
    rw [this]
  · show ((ents.toList.map _).foldr DataW.insert []).length = ks.length
    rw [(perm_foldr _).length_eq, List.length_map, ← hll, Array.length_toList]

/-- what comes back of a sort, as an object -/
theorem rowOfS_step {σ : Emb} {h : AHeap} {w w' : World} (H : HRel σ h w) {e : Nat} {v : Value} {xs : List Value} {n : Nat} (hrow : w'.ownsRow w.heap.size e 1 v n xs) (hnil : v = .slice none 0 0 ↔ xs = [])
    (hflat : ∀ τ : Emb, VRels τ xs xs) (hb : Go.RowKit.Below w.heap.size w w') : ∃ σ', Step σ h w σ' (rowOfS xs h).2 w' ∧ VRel σ' (rowOfS xs h).1 v := by
  obtain ⟨hlen, hcase⟩ := hrow
  have hold : ∀ β, β < w.heap.size → w'.heap[β]? = w.heap[β]? := hb.block
  rcases hcase with ⟨rfl, hn⟩ | ⟨g, cap, cur, rfl, hg, hgb, r1, r2, r3, r4⟩
  · have : xs = [] := hnil.1 rfl
    subst this
    exact ⟨σ, Step.more H hold hb.size hb.os hb.output, .nilSlice⟩
  · have hne : xs ≠ [] := fun e => by have := hnil.2 e; cases this
    have e1 : rowOfS xs h = (.slice (some ⟨h.next, 0, none⟩) xs.length xs.length, (h.new (.row xs 1 h.next 0)).2) := by
      cases xs with
      | nil => exact absurd rfl hne
      | cons a l => rfl
    rw [e1]
    rw [Nat.mul_one] at hlen r3 r4
    have hx : xs.length ≤ cur.size := by rw [hlen, r3]; exact r1
    refine ⟨_, Step.adopt H (o := .row xs 1 h.next 0) (x := .cells cur e (0, 0)) ⟨rfl, rfl, cur, e, (0, 0), rfl, .inl (Nat.le_refl _), hx, ?_⟩ hg hgb hold hb.size hb.os hb.output, ?_⟩
    · rw [hlen, r4]; exact hflat σ
    · rw [← hlen]
      have := VRel.slice (σ := σ.ext h.next (g, 0) (newKl (.row xs 1 h.next 0) (.cells cur e (0, 0)))) (b := h.next) (β := g) (base := 0) (off := 0) (o := 0) (len := xs.length) (kap := xs.length) (cap := cap) (Emb.ext_same _ _ _ _) (Nat.le_refl _) (by omega) (.inl ⟨rfl, .inr ?_⟩)
      · exact this
      · rw [Emb.kl_same]
        show 0 + cap * 1 ≤ cur.size
        omega
end Go.AM
