import Derived.Test.YtjiphiegpfleeaaGreatDoorRAmSum4
import Derived.Below
import Derived.Laws.AppendOwn
namespace Go.AM
open Go.ChangeMaps (setBlock)

/-- 'next', the iterator wherever it lies: what it leaves -/
theorem next_at {P : Program} (w : World) (r bm c : Nat) (seen : Array Nat) (es : Array MapEntry) (hr : w.heap[r]? = some (.mapIter (some bm) c seen c)) (hb : w.heap[bm]? = some (.map es c)) (hold : ∀ x ∈ es.toList, x.born < c) :
    ((leftOf es seen).size = 0 ∧ ∀ ty, (Instr.next (.pointer (some ⟨r, 0, none⟩)) false ty).run P w = .ok (.tuple #[.bool false]) w) ∨
    ∃ e ∈ (leftOf es seen).toList, ∃ w2 : World, (∀ ty, (Instr.next (.pointer (some ⟨r, 0, none⟩)) false ty).run P w = .ok (.tuple #[.bool true, e.key, e.val]) w2) ∧
      w2.heap[r]? = some (.mapIter (some bm) c (seen.push e.born) c) ∧ (∀ k, k ≠ r → w2.heap[k]? = w.heap[k]?) ∧ w2.heap.size = w.heap.size ∧ w2.os = w.os ∧ w2.tape = w.tape ∧ w2.output = w.output := by
  rcases run_next_at (P := P) w 0 r bm c c seen es c hr hb hold (Nat.le_refl _) with ⟨h0, h1⟩ | ⟨e, he, w1, hw1, h1⟩
  · exact .inl ⟨h0, fun _ => h1⟩
  · refine .inr ⟨e, he, _, fun _ => h1, ?_, ?_, ?_, ?_, ?_, ?_⟩
    · have hlt : r < w1.heap.size := by
        have : r < w.heap.size := by
          rcases Nat.lt_or_ge r w.heap.size with h | h
          · exact h
          · rw [Array.getElem?_eq_none h] at hr; cases hr
        rcases hw1 with rfl | rfl <;> exact this
      show (w1.heap.setIfInBounds r _)[r]? = _
      rw [Array.getElem?_setIfInBounds, if_pos rfl, if_pos hlt]
    · intro k hk
      show (w1.heap.setIfInBounds r _)[k]? = _
      rw [Array.getElem?_setIfInBounds, if_neg (fun h => hk h.symm)]
      rcases hw1 with rfl | rfl <;> rfl
    · show (w1.heap.setIfInBounds r _).size = _
      rw [Array.size_setIfInBounds]
      rcases hw1 with rfl | rfl <;> rfl
    all_goals (rcases hw1 with rfl | rfl <;> rfl)

theorem below_of {B : Nat} {w wr w2 : World} {r : Nat} (h : Go.RowKit.Below B w wr) (hr : B ≤ r) (ho : ∀ k, k ≠ r → w2.heap[k]? = wr.heap[k]?) (hs : w2.heap.size = wr.heap.size) (h1 : w2.os = wr.os) (h2 : w2.tape = wr.tape) (h3 : w2.output = wr.output) :
    Go.RowKit.Below B w w2 :=
  ⟨h1.trans h.os, h2.trans h.tape, h3.trans h.output, by rw [hs]; exact h.size, fun k hk => by rw [ho k (by omega)]; exact h.block k hk⟩

theorem owns_of_same {w w2 : World} {r : Nat} {m : Option Nat} {a c : Nat} {seen : Array Nat} {base e size n : Nat} {v : Value} {xs : List Value} (h : w.ownsRow base e size v n xs) (hr : w.heap[r]? = some (.mapIter m a seen c))
    (ho : ∀ k, k ≠ r → w2.heap[k]? = w.heap[k]?) : w2.ownsRow base e size v n xs := by
  refine ⟨h.1, ?_⟩
  rcases h.2 with h2 | ⟨g, cap, cur, hv, hb, hg, rest⟩
  · exact .inl h2
  · refine .inr ⟨g, cap, cur, hv, hb, ?_, rest⟩
    rw [ho g (fun e => by rw [e, hr] at hg; cases hg)]
    exact hg

open Go.Proofs (encStr)
/-- the keys that are on in the first k maps -/
def onUpto (es : Nat → Array MapEntry) : Nat → List Value
  | 0 => []
  | k + 1 => onUpto es k ++ ((es k).toList.filter entOn).map (·.key)
def sizeUpto (es : Nat → Array MapEntry) : Nat → Nat
  | 0 => 0
  | k + 1 => sizeUpto es k + ((es k).toList.filter entOn).length
theorem onUpto_length (es : Nat → Array MapEntry) : ∀ k, (onUpto es k).length = sizeUpto es k
  | 0 => rfl
  | k + 1 => by simp [onUpto, sizeUpto, onUpto_length es k]
theorem sizeUpto_mono (es : Nat → Array MapEntry) {k : Nat} : ∀ {m : Nat}, k ≤ m → sizeUpto es k ≤ sizeUpto es m
  | 0, h => by have : k = 0 := by omega
               subst this; exact Nat.le_refl _
  | m + 1, h => by
    rcases Nat.lt_or_ge k (m + 1) with h1 | h1
    · exact Nat.le_trans (sizeUpto_mono es (by omega)) (Nat.le_add_right _ _)
    · have : k = m + 1 := by omega
      subst this; exact Nat.le_refl _
theorem onSeen_le (es : List MapEntry) (seen : Array Nat) : (onSeen es seen).length ≤ (es.filter entOn).length := by
  unfold onSeen
  rw [List.length_map]
  have : (es.filter fun e => seen.contains e.born && entOn e) = (es.filter entOn).filter fun e => seen.contains e.born := by
    rw [List.filter_filter]
  rw [this]
  exact List.length_filter_le _ _
/-- what stands between two maps -/
def KeysAt (w : World) (keys : List Value) (v : Value) (wr : World) : Prop :=
  ∃ ss : List (List UInt8), (ss.map encStr).Perm keys ∧ wr.ownsRow w.heap.size 9 1 v ss.length (ss.map encStr) ∧ (v = .slice none 0 0 ↔ ss = []) ∧ Go.RowKit.Below w.heap.size w wr
/-- what is known of the four maps -/
structure KeysOf (P : Program) (w : World) (t : Nat) (ρ : Nat → Nat) (es : Nat → Array MapEntry) (clock : Nat → Nat) : Prop where
  map : ∀ i, i < 4 → w.heap[ρ i]? = some (.map (es i) (clock i))
  born : ∀ i, i < 4 → ∀ x ∈ (es i).toList, x.born < clock i
  nd : ∀ i, i < 4 → ((es i).toList.map (·.born)).Nodup
  ent : ∀ i, i < 4 → ∀ e ∈ (es i).toList, ∃ x : List UInt8, e.key = encStr x ∧ ∀ wr, Go.RowKit.Below w.heap.size w wr → ∃ c0 c1 c2 c3 : Int, (Instr.lookup t (.map (some (ρ i))) e.key false).run P wr = .ok (.agg #[.int .i64 c0, .int .i64 c1, .int .i64 c2, .int .i64 c3, .bool (entOn e)]) wr
  size : sizeUpto es 4 < 4294967296
/-- while one map is gone through -/
def KeysIn (w : World) (ρ c r : Nat) (es : Array MapEntry) (keys : List Value) (v : Value) (wr : World) : Prop :=
  ∃ seen, wr.heap[r]? = some (.mapIter (some ρ) c seen c) ∧ KeysAt w (keys ++ onSeen es.toList seen) v wr
/-- how many are left -/
def iterLeft (es : Array MapEntry) (r : Nat) (wr : World) : Nat := (leftOf es (wr.iterSeen r)).size
theorem iterLeft_eq {es : Array MapEntry} {r : Nat} {wr : World} {m : Option Nat} {a c : Nat} {seen : Array Nat} (h : wr.heap[r]? = some (.mapIter m a seen c)) : iterLeft es r wr = (leftOf es seen).size := by
  unfold iterLeft World.iterSeen; rw [h]
end Go.AM
