import Derived.Test.YtjiphiegpfleeaaGreatDoorRAmTab
namespace Go.AM

/-- a program's tables, as tries -/
def mkT (ft : Trie Func) (tt : Trie TypeInfo) (skip : Nat → Bool) (ext : Nat → Option Ext) (flat : Nat → Option (List TypeDesc)) (summ : Nat → Option (List Value → AHeap → Option (Value × AHeap))) : Tab where
  nglob := 0
  ext := ext
  und := fun t => match tt.get t with
    | some i => (match i.desc with
      | .named _ u => (match tt.get u with | some j => some j.desc | none => none)
      | d => some d)
    | none => none
  info := fun t => tt.get t
  func := fun f => bif skip f then none else ft.get f
  flat := flat
  summ := summ

theorem fill_get {α : Type} (l : List α) (n : Nat) : (Trie.fill .leaf 0 l).get n = l[n]? := by
  rw [Trie.get_fill]
  by_cases h : n < l.length
  · rw [if_pos ⟨Nat.zero_le _, by omega⟩]; rfl
  · rw [if_neg (by omega), List.getElem?_eq_none (by omega)]; rfl

section
variable {P : Program} {ft : Trie Func} {tt : Trie TypeInfo} {skip : Nat → Bool} {ext : Nat → Option Ext} {flat : Nat → Option (List TypeDesc)} {summ : Nat → Option (List Value → AHeap → Option (Value × AHeap))}

theorem info_of (ht : tt = Trie.fill .leaf 0 P.types.toList) {t : Nat} {i : TypeInfo} (h : tt.get t = some i) : P.info? t = some i := by
  rw [ht, fill_get] at h
  have hlt : t < P.types.size := by
    rcases Nat.lt_or_ge t P.types.size with h' | h'
    · exact h'
    · rw [List.getElem?_eq_none (by simpa using h')] at h; cases h
  show (if t < P.types.size then P.types[t]? else _) = some i
  rw [if_pos hlt]
  simpa using h

theorem mkT_ok (hf : ft = Trie.fill .leaf 0 P.funcs.toList) (ht : tt = Trie.fill .leaf 0 P.types.toList)
    (hn : (P.funcs.toList.all fun fn => !(fn.name == "runtime.NumGoroutine")) = true) : (mkT ft tt skip ext flat summ).Ok P where
  und := by
    intro t d h
    simp only [mkT] at h
    split at h
    · rename_i i hi
      have h1 := info_of ht hi
      unfold Program.underlying
      rw [h1]
      split at h
      · rename_i nm u hd
        split at h
        · rename_i j hj
          obtain ⟨desc, _, _, _⟩ := i
          simp only at hd; subst hd
          simp only [info_of ht hj]
          exact h
        · cases h
      · rename_i hd
        split
        · rename_i u heq
          injection heq with heq
          subst heq
          exact absurd rfl (hd _ _)
        · rename_i i' _ heq
          injection heq with heq
          subst heq
          exact h
        · rename_i heq; cases heq
    · cases h
  info := fun t i h => info_of ht h
  func := by
    intro f fn h
    simp only [mkT] at h
    cases hs : skip f with
    | true => rw [hs] at h; cases h
    | false =>
      rw [hs] at h
      simp only [cond_false] at h
      rw [hf, fill_get] at h
      refine ⟨by simpa using h, ?_⟩
      rw [List.all_eq_true] at hn
      have := hn fn (List.mem_of_getElem? h)
      simpa using this

theorem mkT_codes (hf : ft = Trie.fill .leaf 0 P.funcs.toList)
    (hc : ((idx P.funcs.toList 0).all fun x => skip x.2 || (match x.1.body with | some c => codeOk x.1.ntmps c | none => true)) = true) : CodesOk (mkT ft tt skip ext flat summ) := by
  intro f fn c h hb
  simp only [mkT] at h
  cases hs : skip f with
  | true => rw [hs] at h; cases h
  | false =>
    rw [hs] at h
    simp only [cond_false] at h
    rw [hf, fill_get] at h
    rw [List.all_eq_true] at hc
    have := hc (fn, f) (idx0_mem.mpr h)
    simpa [hs, hb] using this
end
end Go.AM
