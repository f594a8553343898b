import Derived.Test.YtjiphiegpfleeaaGreatDoorRAmSum5
import Derived.Lib.Join
namespace Go.AM

/-! joining words -/
def strsOf : List Value → Option (List ByteArray)
  | [] => some []
  | .string s :: l => match strsOf l with | some r => some (s :: r) | none => none
  | _ => none
def sumJoin (args : List Value) (h : AHeap) : Option (Value × AHeap) :=
  match args with
  | [.slice a n _, .string sep] =>
    bif Nat.beq n 0 then some (.string ⟨#[]⟩, h) else
    match a with
    | some ⟨b, off, none⟩ => match sliceCells h b off n with
      | some l => match strsOf l with
        | some xs =>
          let r := Lib.join (xs.map fun x => x.data.toList) sep.data.toList
          bif Nat.blt r.length 4294967296 && Nat.blt n 4294967296 then some (.string ⟨r.toArray⟩, h) else none
        | none => none
      | none => none
    | _ => none
  | _ => none

theorem strsOf_rel {σ : Emb} : ∀ {l l' : List Value} {xs : List ByteArray}, VRels σ l l' → strsOf l = some xs → l' = xs.map Value.string
  | _, _, xs, .nil, h => by
    simp only [strsOf, Option.some.injEq] at h; subst h; rfl
  | _, _, xs, .cons hv t, h => by
    unfold strsOf at h
    split at h
    · rename_i heq; cases heq
    · rename_i s l heq
      injection heq with h1 h2
      subst h1; subst h2
      split at h
      · rename_i r hr
        injection h with h; subst h
        cases hv
        rw [strsOf_rel t hr]; rfl
      · cases h
    · cases h

theorem slice_cells {σ : Emb} {h : AHeap} {w : World} (H : HRel σ h w) {b β s off n : Nat} {l : List Value} (hb : σ b = some (β, s)) (hc : sliceCells h b off n = some l) :
    ∃ l', VRels σ l l' ∧ l'.length = n ∧ ∀ (j : Nat) v, l'[j]? = some v → w.cell? ⟨β, s + off + j, none⟩ = some v := by
  unfold sliceCells at hc
  split at hc
  · rename_i cs hcs
    have key : ∀ i v, cs[i]? = some v → ∃ v', w.cell? ⟨β, s + i, none⟩ = some v' ∧ VRel σ v v' := fun i v hi => cell_rel H hb hcs (by rw [nth_eq]; exact hi)
    obtain ⟨hl, hlen⟩ := seg_val hc
    have hget : ∀ i, i < n → l[i]? = cs[off + i]? := fun i hi => seg_get hc i hi
    have ex : ∀ m, m ≤ n → ∃ l', VRels σ (l.take m) l' ∧ l'.length = m ∧ ∀ (j : Nat) v, l'[j]? = some v → w.cell? ⟨β, s + off + j, none⟩ = some v := by
      intro m
      induction m with
      | zero => intro _; exact ⟨[], by simpa using VRels.nil, rfl, fun j v h => by simp at h⟩
      | succ m ih =>
        intro hm
        obtain ⟨l', r1, r2, r3⟩ := ih (by omega)
        have hlt : m < l.length := by omega
        obtain ⟨v', q1, q2⟩ := key (off + m) l[m] (by rw [← hget m (by omega)]; exact List.getElem?_eq_getElem hlt)
        refine ⟨l' ++ [v'], ?_, by simp [r2], fun j v hj => ?_⟩
        · rw [List.take_add_one, List.getElem?_eq_getElem hlt]
          exact r1.append (.cons q2 .nil)
        · rcases Nat.lt_or_ge j m with h' | h'
          · rw [List.getElem?_append_left (by omega)] at hj
            exact r3 j v hj
          · rw [List.getElem?_append_right (by omega), r2] at hj
            have : j = m := by
              rcases Nat.lt_or_ge (j - m) 1 with h1 | h1
              · omega
              · rw [List.getElem?_eq_none (by simpa using h1)] at hj; cases hj
            subst this
            simp at hj; subst hj
            rw [Nat.add_assoc]; exact q1
    obtain ⟨l', r1, r2, r3⟩ := ex n (Nat.le_refl _)
    rw [List.take_of_length_le (by omega)] at r1
    exact ⟨l', r1, r2, r3⟩
  · cases hc
end Go.AM
