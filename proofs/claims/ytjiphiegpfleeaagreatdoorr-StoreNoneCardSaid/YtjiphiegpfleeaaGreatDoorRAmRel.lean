import Derived.Test.YtjiphiegpfleeaaGreatDoorRAm
import Derived.Laws.Sem
import Derived.Laws.World
namespace Go.AM

/-! lemmas on tries and lists -/
theorem Trie.get_sing {α : Type} (a : α) : ∀ (k n m : Nat), n < k → (Trie.sing a k n).get m = if m = n then some a else none
  | 0, _, _, h => by omega
  | k + 1, n, m, h => by
    unfold Trie.sing
    cases n with
    | zero =>
      cases m with
      | zero => simp [Trie.get]
      | succ m => simp only [Trie.get]; cases Nat.beq (Nat.mod m 2) 0 <;> simp
    | succ n =>
      have hk : Nat.div n 2 < k := by have : Nat.div n 2 = n / 2 := rfl; omega
      cases m with
      | zero => cases h1 : Nat.beq (Nat.mod n 2) 0 <;> simp [Trie.get, h1]
      | succ m =>
        have e1 : Nat.mod n 2 = n % 2 := rfl
        have e2 : Nat.mod m 2 = m % 2 := rfl
        have e3 : Nat.div n 2 = n / 2 := rfl
        have e4 : Nat.div m 2 = m / 2 := rfl
        cases h1 : Nat.beq (Nat.mod n 2) 0 <;> cases h2 : Nat.beq (Nat.mod m 2) 0 <;>
          simp only [Trie.get, h1, h2, cond_true, cond_false, Trie.get_sing a k _ _ hk]
        · have a1 := Nat.ne_of_beq_eq_false h1
          have a2 := Nat.ne_of_beq_eq_false h2
          by_cases h : m = n
          · simp [h]
          · rw [if_neg (by omega), if_neg (by omega)]
        · have a1 := Nat.ne_of_beq_eq_false h1
          have a2 := Nat.eq_of_beq_eq_true h2
          rw [if_neg (by omega)]
        · have a1 := Nat.eq_of_beq_eq_true h1
          have a2 := Nat.ne_of_beq_eq_false h2
          rw [if_neg (by omega)]
        · have a1 := Nat.eq_of_beq_eq_true h1
          have a2 := Nat.eq_of_beq_eq_true h2
          by_cases h : m = n
          · simp [h]
          · rw [if_neg (by omega), if_neg (by omega)]

theorem Trie.get_set {α : Type} (a : α) : ∀ (t : Trie α) (n m : Nat), (t.set a n).get m = if m = n then some a else t.get m
  | .leaf, n, m => by simp [Trie.set, Trie.get_sing a (n + 1) n m (by omega), Trie.get]
  | .node l v r, n, m => by
    cases n with
    | zero =>
      cases m with
      | zero => simp [Trie.set, Trie.get]
      | succ m => simp [Trie.set, Trie.get]
    | succ n =>
      cases m with
      | zero => simp only [Trie.set]; cases h1 : Nat.beq (Nat.mod n 2) 0 <;> simp [Trie.get]
      | succ m =>
        have e1 : Nat.mod n 2 = n % 2 := rfl
        have e2 : Nat.mod m 2 = m % 2 := rfl
        have e3 : Nat.div n 2 = n / 2 := rfl
        have e4 : Nat.div m 2 = m / 2 := rfl
        simp only [Trie.set]
        cases h1 : Nat.beq (Nat.mod n 2) 0 <;> cases h2 : Nat.beq (Nat.mod m 2) 0 <;>
          simp only [Trie.get, h2, cond_true, cond_false, Trie.get_set a l, Trie.get_set a r]
        · have a1 := Nat.ne_of_beq_eq_false h1
          have a2 := Nat.ne_of_beq_eq_false h2
          by_cases h : m = n
          · simp [h]
          · rw [if_neg (by omega), if_neg (by omega)]
        · have a1 := Nat.ne_of_beq_eq_false h1
          have a2 := Nat.eq_of_beq_eq_true h2
          rw [if_neg (by omega)]
        · have a1 := Nat.eq_of_beq_eq_true h1
          have a2 := Nat.ne_of_beq_eq_false h2
          rw [if_neg (by omega)]
        · have a1 := Nat.eq_of_beq_eq_true h1
          have a2 := Nat.eq_of_beq_eq_true h2
          by_cases h : m = n
          · simp [h]
          · rw [if_neg (by omega), if_neg (by omega)]

theorem nth_eq {α : Type} : ∀ (l : List α) (n : Nat), nth l n = l[n]?
  | [], _ => by simp [nth]
  | a :: l, 0 => by simp [nth]
  | a :: l, n + 1 => by simp [nth, nth_eq l n]

theorem Trie.get_fill {α : Type} : ∀ (l : List α) (t : Trie α) (i m : Nat), (t.fill i l).get m = if i ≤ m ∧ m < i + l.length then l[m - i]? else t.get m
  | [], t, i, m => by simp only [Trie.fill, List.length_nil]; rw [if_neg (by omega)]
  | a :: l, t, i, m => by
    rw [Trie.fill, Trie.get_fill l, Trie.get_set]
    simp only [List.length_cons]
    by_cases h : i ≤ m ∧ m < i + (l.length + 1)
    · rw [if_pos h]
      by_cases e : m = i
      · subst e; rw [if_neg (by omega), if_pos rfl]; simp
      · rw [if_pos (by omega)]
        have : m - i = (m - (i + 1)) + 1 := by omega
        rw [this, List.getElem?_cons_succ]
    · rw [if_neg h, if_neg (by omega), if_neg (by omega)]

theorem seg_eq {α : Type} {l r : List α} {off n : Nat} (h : seg l off n = some r) : off + n ≤ l.length ∨ n = 0 := by
  simp only [seg] at h
  cases hb : Nat.beq ((l.drop off).take n).length n with
  | false => rw [hb] at h; cases h
  | true =>
    have := Nat.eq_of_beq_eq_true hb
    simp at this; omega
theorem seg_val {α : Type} {l r : List α} {off n : Nat} (h : seg l off n = some r) : r = (l.drop off).take n ∧ r.length = n := by
  simp only [seg] at h
  cases hb : Nat.beq ((l.drop off).take n).length n with
  | false => rw [hb] at h; cases h
  | true =>
    have := Nat.eq_of_beq_eq_true hb
    rw [hb] at h; simp only [cond_true, Option.some.injEq] at h
    subst h; exact ⟨rfl, this⟩
theorem seg_get {α : Type} {l r : List α} {off n : Nat} (h : seg l off n = some r) (i : Nat) (hi : i < n) : r[i]? = l[off + i]? := by
  obtain ⟨rfl, _⟩ := seg_val h
  rw [List.getElem?_take_of_lt hi, List.getElem?_drop]

theorem over_nil {α : Type} (l : List α) (off : Nat) : over l off [] = some l := by cases l <;> cases off <;> rfl
theorem over_zero {α : Type} (a b : α) (l m : List α) : over (a :: l) 0 (b :: m) = match over l 0 m with | some r => some (b :: r) | none => none := rfl
theorem over_succ {α : Type} (a b : α) (l m : List α) (n : Nat) : over (a :: l) (n + 1) (b :: m) = match over l n (b :: m) with | some r => some (a :: r) | none => none := rfl

theorem over_spec {α : Type} : ∀ {l : List α} {off : Nat} {m r : List α}, over l off m = some r →
    r.length = l.length ∧ (off + m.length ≤ l.length ∨ m = []) ∧ ∀ i, r[i]? = if off ≤ i ∧ i < off + m.length then m[i - off]? else l[i]?
  | l, off, [], r, h => by
    rw [over_nil] at h; injection h with h; subst h
    refine ⟨rfl, .inr rfl, fun i => ?_⟩
    simp only [List.length_nil]; rw [if_neg (by omega)]
  | [], 0, _ :: _, r, h => by cases h
  | [], n + 1, _ :: _, r, h => by cases h
  | a :: l, 0, b :: m, r, h => by
    rw [over_zero] at h
    cases hr : over l 0 m with
    | none => rw [hr] at h; cases h
    | some r' =>
      rw [hr] at h; injection h with h; subst h
      obtain ⟨h1, h2, h3⟩ := over_spec hr
      refine ⟨by simp [h1], ?_, fun i => ?_⟩
      · left
        rcases h2 with h2 | h2
        · simp; omega
        · simp [h2]
      · cases i with
        | zero => simp
        | succ i =>
          rw [List.getElem?_cons_succ, h3]
          by_cases hi : i < m.length
          · rw [if_pos (by omega), if_pos (by simp; omega)]; simp
          · rw [if_neg (by omega), if_neg (by simp; omega)]; simp
  | a :: l, n + 1, b :: m, r, h => by
    rw [over_succ] at h
    cases hr : over l n (b :: m) with
    | none => rw [hr] at h; cases h
    | some r' =>
      rw [hr] at h; injection h with h; subst h
      obtain ⟨h1, h2, h3⟩ := over_spec hr
      refine ⟨by simp [h1], ?_, fun i => ?_⟩
      · left
        rcases h2 with h2 | h2
        · simp at h2 ⊢; omega
        · cases h2
      · cases i with
        | zero => rw [if_neg (by omega)]; simp
        | succ i =>
          rw [List.getElem?_cons_succ, h3]
          by_cases hi : n ≤ i ∧ i < n + (b :: m).length
          · rw [if_pos hi, if_pos (by omega)]; congr 1; omega
          · rw [if_neg hi, if_neg (by omega)]; simp

/-! the relation on values: ids become places in blocks -/
structure Emb where
  at_ : Nat → Option (Nat × Nat)
  kl : Nat → Nat × Nat       -- of a row: an element's cells; the block's cells
instance : CoeFun Emb (fun _ => Nat → Option (Nat × Nat)) := ⟨Emb.at_⟩

mutual
inductive VRel (σ : Emb) : Value → Value → Prop
  | bool (b : Bool) : VRel σ (.bool b) (.bool b)
  | int (k : IntKind) (n : Int) : VRel σ (.int k n) (.int k n)
  | float (k : FloatKind) (n : Nat) : VRel σ (.float k n) (.float k n)
  | string (s : ByteArray) : VRel σ (.string s) (.string s)
  | nilPtr : VRel σ (.pointer none) (.pointer none)
  | ptr {b β base : Nat} (off : Nat) (h : σ b = some (β, base)) : VRel σ (.pointer (some ⟨b, off, none⟩)) (.pointer (some ⟨β, base + off, none⟩))
  | nilSlice : VRel σ (.slice none 0 0) (.slice none 0 0)
  | slice {b β base off o len kap cap : Nat} (h : σ b = some (β, base)) (h1 : len ≤ kap) (h2 : kap ≤ cap) (h3 : (o = base + off ∧ ((σ.kl b).1 = 0 ∨ o + cap * (σ.kl b).1 ≤ (σ.kl b).2)) ∨ cap = 0) :
      VRel σ (.slice (some ⟨b, off, none⟩) len kap) (.slice (some ⟨β, o, none⟩) len cap)
  | tight {b β base off o : Nat} (h : σ b = some (β, base)) : VRel σ (.slice (some ⟨b, off, some 0⟩) 0 0) (.slice (some ⟨β, o, none⟩) 0 0)
  | nilMap : VRel σ (.map none) (.map none)
  | map {r ρ : Nat} (h : σ r = some (ρ, 0)) : VRel σ (.map (some r)) (.map (some ρ))
  | nilFunc : VRel σ .nilFunc .nilFunc
  | func (f : Nat) {a b a' b' : Array Value} (h1 : VRels σ a.toList a'.toList) (h2 : VRels σ b.toList b'.toList) : VRel σ (.func (.func f) a b) (.func (.func f) a' b')
  | nilIface : VRel σ .nilIface .nilIface
  | iface (t : Nat) {v v' : Value} (h : VRel σ v v') : VRel σ (.iface t v) (.iface t v')
  | agg {a a' : Array Value} (h : VRels σ a.toList a'.toList) : VRel σ (.agg a) (.agg a')
  | tuple {a a' : Array Value} (h : VRels σ a.toList a'.toList) : VRel σ (.tuple a) (.tuple a')
inductive VRels (σ : Emb) : List Value → List Value → Prop
  | nil : VRels σ [] []
  | cons {v v' : Value} {l l' : List Value} (h : VRel σ v v') (t : VRels σ l l') : VRels σ (v :: l) (v' :: l')
end

def Emb.le (σ τ : Emb) : Prop := ∀ b x, σ b = some x → τ b = some x ∧ τ.kl b = σ.kl b

mutual
theorem VRel.mono {σ τ : Emb} (hs : Emb.le σ τ) : ∀ {v v' : Value}, VRel σ v v' → VRel τ v v'
  | _, _, .bool b => .bool b
  | _, _, .int k n => .int k n
  | _, _, .float k n => .float k n
  | _, _, .string s => .string s
  | _, _, .nilPtr => .nilPtr
  | _, _, .ptr off h => .ptr off (hs _ _ h).1
  | _, _, .nilSlice => .nilSlice
  | _, _, .slice h h1 h2 h3 => .slice (hs _ _ h).1 h1 h2 (by rw [(hs _ _ h).2]; exact h3)
  | _, _, .tight h => .tight (hs _ _ h).1
  | _, _, .nilMap => .nilMap
  | _, _, .map h => .map (hs _ _ h).1
  | _, _, .nilFunc => .nilFunc
  | _, _, .func f h1 h2 => .func f (VRels.mono hs h1) (VRels.mono hs h2)
  | _, _, .nilIface => .nilIface
  | _, _, .iface t h => .iface t (VRel.mono hs h)
  | _, _, .agg h => .agg (VRels.mono hs h)
  | _, _, .tuple h => .tuple (VRels.mono hs h)
theorem VRels.mono {σ τ : Emb} (hs : Emb.le σ τ) : ∀ {l l' : List Value}, VRels σ l l' → VRels τ l l'
  | _, _, .nil => .nil
  | _, _, .cons h t => .cons (VRel.mono hs h) (VRels.mono hs t)
end

theorem VRels.length {σ : Emb} : ∀ {l l' : List Value}, VRels σ l l' → l.length = l'.length
  | _, _, .nil => rfl
  | _, _, .cons _ t => by simp [VRels.length t]

theorem VRels.get {σ : Emb} : ∀ {l l' : List Value}, VRels σ l l' → ∀ (i : Nat) v, l[i]? = some v → ∃ v', l'[i]? = some v' ∧ VRel σ v v'
  | _, _, .nil, i, v, h => by simp at h
  | _, _, .cons hv t, i, v, h => by
    cases i with
    | zero => simp at h; subst h; exact ⟨_, by simp, hv⟩
    | succ i => simp at h; obtain ⟨v', h1, h2⟩ := VRels.get t i v h; exact ⟨v', by simpa using h1, h2⟩

theorem VRels.get' {σ : Emb} : ∀ {l l' : List Value}, VRels σ l l' → ∀ (i : Nat) v', l'[i]? = some v' → ∃ v, l[i]? = some v ∧ VRel σ v v'
  | _, _, .nil, i, v, h => by simp at h
  | _, _, .cons hv t, i, v, h => by
    cases i with
    | zero => simp at h; subst h; exact ⟨_, by simp, hv⟩
    | succ i => simp at h; obtain ⟨v', h1, h2⟩ := VRels.get' t i v h; exact ⟨v', by simpa using h1, h2⟩

theorem VRels.of {σ : Emb} : ∀ {l l' : List Value}, l.length = l'.length → (∀ (i : Nat) v v', l[i]? = some v → l'[i]? = some v' → VRel σ v v') → VRels σ l l'
  | [], [], _, _ => .nil
  | a :: l, b :: m, hl, h => .cons (h 0 a b rfl rfl) (VRels.of (by simpa using hl) fun i v v' h1 h2 => h (i + 1) v v' (by simpa using h1) (by simpa using h2))
  | [], _ :: _, hl, _ => by simp at hl
  | _ :: _, [], hl, _ => by simp at hl

theorem VRels.append {σ : Emb} : ∀ {l l' m m' : List Value}, VRels σ l l' → VRels σ m m' → VRels σ (l ++ m) (l' ++ m')
  | _, _, _, _, .nil, h => h
  | _, _, _, _, .cons hv t, h => .cons hv (VRels.append t h)

theorem VRels.drop {σ : Emb} {l l' : List Value} (h : VRels σ l l') (n : Nat) : VRels σ (l.drop n) (l'.drop n) := by
  induction n generalizing l l' with
  | zero => simpa using h
  | succ n ih => cases h with
    | nil => exact .nil
    | cons hv t => simpa using ih t
theorem VRels.take {σ : Emb} {l l' : List Value} (h : VRels σ l l') (n : Nat) : VRels σ (l.take n) (l'.take n) := by
  induction n generalizing l l' with
  | zero => simp; exact .nil
  | succ n ih => cases h with
    | nil => exact .nil
    | cons hv t => simpa using .cons hv (ih t)

theorem VRels.over {σ : Emb} : ∀ {l l' m m' r : List Value} {off : Nat}, VRels σ l l' → VRels σ m m' → over l off m = some r → ∃ r', over l' off m' = some r' ∧ VRels σ r r'
  | _, _, _, _, r, off, hl, .nil, h => by
    rename_i l l'
    rw [over_nil] at h; injection h with h; subst h
    exact ⟨l', over_nil _ _, hl⟩
  | _, _, _, _, r, 0, .nil, .cons _ _, h => by cases h
  | _, _, _, _, r, n + 1, .nil, .cons _ _, h => by cases h
  | _, _, _, _, r, 0, .cons hv t, .cons hb hm, h => by
    rw [over_zero] at h
    split at h
    · rename_i r' hr
      injection h with h; subst h
      obtain ⟨q, h1, h2⟩ := VRels.over t hm hr
      exact ⟨_ :: q, by rw [over_zero, h1], .cons hb h2⟩
    · cases h
  | _, _, _, _, r, n + 1, .cons hv t, .cons hb hm, h => by
    rw [over_succ] at h
    split at h
    · rename_i r' hr
      injection h with h; subst h
      obtain ⟨q, h1, h2⟩ := VRels.over t (.cons hb hm) hr
      exact ⟨_ :: q, by rw [over_succ, h1], .cons hv h2⟩
    · cases h

theorem VRel.cells {σ : Emb} {v v' : Value} (h : VRel σ v v') : VRels σ (vcells v) v'.cells.toList := by
  cases h <;> first
    | (simp only [vcells, Value.cells]; assumption)
    | (simp only [vcells, Value.cells]; exact .cons (by constructor <;> assumption) .nil)

end Go.AM
