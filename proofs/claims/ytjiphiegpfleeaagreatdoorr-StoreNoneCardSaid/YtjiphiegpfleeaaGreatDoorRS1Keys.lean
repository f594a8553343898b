import Derived.Test.YtjiphiegpfleeaaGreatDoorRAmSum5
import Derived.Test.YtjiphiegpfleeaaGreatDoorRS1Base
import Derived.Test.YtjiphiegpfleeaaGreatDoorRS1Sorted
import Derived.Tactics
import Derived.Tactics2
import Derived.Scope
import Derived.FnLit
import Derived.LoopTactic
import Derived.LoopN
import Derived.Laws.Cells
import Derived.Laws.World
import Derived.Laws.Alloc2
import Derived.Laws.Small
import Derived.Laws.Entries
import Derived.Laws.Slices
import Derived.Laws.Pointers
import Derived.Laws.Wrap64
import Derived.Laws.Unary
import Derived.Laws.Build
import Derived.Laws.ByValue
import Derived.Laws.Append
import Derived.Laws.AppendOwn
import Derived.Laws.OwnMore
import Derived.Laws.StructEq
import Derived.IntWalk
import Derived.WalkKit
namespace Go.Proofs.S1
open Go.AM Go.RowKit Go.Sort
theorem info9 : (Tryz.prog.info? 9).map (fun i => (i.zero, i.size, i.bytes)) = some (some (.string ⟨#[]⟩), 1, 16) := by kernel_rfl
theorem index134 (ρ : Nat → Nat) : ∀ (k : Nat), k < 4 → ∀ wr : World, (Instr.index 134 (.agg #[.map (some (ρ 0)), .map (some (ρ 1)), .map (some (ρ 2)), .map (some (ρ 3))]) (.int .i64 k)).run Tryz.prog wr = .ok (.map (some (ρ k))) wr
  | 0, _, wr => by kernel_rfl
  | 1, _, wr => by kernel_rfl
  | 2, _, wr => by kernel_rfl
  | 3, _, wr => by kernel_rfl
  | k + 4, h, _ => by omega
set_option maxRecDepth 1000000 in
set_option maxHeartbeats 2000000 in
theorem keys_walk (β s : Nat) (ρ : Nat → Nat) (es : Nat → Array MapEntry) (clock : Nat → Nat) (w : World) (hblk : β < w.heap.size)
    (hc0 : w.cell? ⟨β, s, none⟩ = some (.map (some (ρ 0)))) (hc1 : w.cell? ⟨β, s + 1, none⟩ = some (.map (some (ρ 1)))) (hc2 : w.cell? ⟨β, s + 2, none⟩ = some (.map (some (ρ 2)))) (hc3 : w.cell? ⟨β, s + 3, none⟩ = some (.map (some (ρ 3))))
    (K : KeysOf Tryz.prog w 133 ρ es clock) :
    Calls Tryz.prog 51 #[.pointer (some ⟨β, s, none⟩)] w fun e w' => ∃ (v : Value) (ss : List (List UInt8)), e = .returned v ∧ (ss.map encStr).Perm (onUpto es 4) ∧
      w'.ownsRow w.heap.size 9 1 v ss.length ((ss.mergeSort (fun x y => decide (x ≤ y))).map encStr) ∧ (v = .slice none 0 0 ↔ ss = []) ∧ Go.RowKit.Below w.heap.size w w' := by
  obtain ⟨i0, hi, hz0, hz1, hz2⟩ := info_parts info9
  go_enter Tryz.func51, Tryz.ntmps51
  go_wp2
  clear hc0 hc1 hc2 hc3
  go_loopw [3, 13] (fun v i wr => ∃ k : Nat, k ≤ 4 ∧ i = .int .i64 k ∧ KeysAt w (onUpto es k) v wr) (fun _ i _ => 4 - (intOf i).toNat)
  case atStart => exact ⟨0, by omega, rfl, [], .refl _, ⟨rfl, .inl ⟨rfl, rfl⟩⟩, by simp, Go.RowKit.Below.refl _ _⟩
  case round =>
    obtain ⟨k, hk, rfl, hat⟩ := hrel
    by_cases hk4 : k = 4
    · subst hk4
      obtain ⟨ss, hp, hrow, hnil, hbel⟩ := hat
      have hmx : maxLen = 9223372036854775807 := by decide
      have hlen : ss.length < 4294967296 := by
        have l1 := hp.length_eq
        have l5 := K.size
        rw [List.length_map, onUpto_length] at l1
        omega
      rcases hrow.2 with ⟨rfl, hz⟩ | ⟨gb, cap, cur, rfl, hbase, hgb, r1, r2, r3, r4⟩
      · have hss : ss = [] := List.eq_nil_of_length_eq_zero hz
        subst hss
        go_wp2_with (go_at_call 90; refine (AnyM.slices_Sort_string_none Tryz.sortA none 0 wr).mono ?_; rintro e w' ⟨rfl, rfl⟩)
        go_ret
        exact ⟨_, [], rfl, hp, by simpa using hrow, by simp, hbel⟩
      · have hH : Holds encStr wr gb 0 ss.toArray := holds_of_block hgb (by simpa using r4)
        have hgl : gb < wr.heap.size := (Array.getElem?_eq_some_iff.1 hgb).1
        have hc := AnyM.slices_Sort_string Tryz.sortA gb 0 cap ss wr hH hgl (by omega)
        go_wp2_with (go_at_call 90; refine hc.mono ?_; rintro e w' ⟨rfl, nn, os, rfl⟩)
        go_ret
        exact ⟨_, ss, rfl, hp, ownsRow_sorted (by simp) hbase hgb r1 r2 r3, hnil, hbel.grown (grownBy_sorted _) hbel.size (fun j hj => by cases hj; exact hbase)⟩
    · have hlt : k < 4 := by omega
      obtain ⟨wo, hwo⟩ : ∃ wo, wo = wr := ⟨_, rfl⟩
      subst hwo
      have hidx := index134 ρ k hlt wo
      have hmk := K.map k hlt
      have hlk : ρ k < w.heap.size := by
        rcases Nat.lt_or_ge (ρ k) w.heap.size with h | h
        · exact h
        · rw [Array.getElem?_eq_none h] at hmk; cases hmk
      have hbw : Go.RowKit.Below w.heap.size w wo := hat.choose_spec.2.2.2
      have hrng := run_range_map (P := Tryz.prog) wo 133 9 171 (ρ k) (es k) (clock k) Tryz.underlying133 ((hbw.block _ hlk).trans hmk)
      go_wp2
      clear hidx hrng
      go_loopw [3] (fun v wr2 => KeysIn w (ρ k) (clock k) wo.heap.size (es k) (onUpto es k) v wr2) (fun _ wr2 => iterLeft (es k) wo.heap.size wr2)
      case atStart =>
        obtain ⟨ss, hp, hrow, hnil, hbel⟩ := hat
        exact ⟨#[], heap_alloc_new _ _, ss, by rw [onSeen_none, List.append_nil]; exact hp, hrow.alloc _, hnil, hbel.alloc hbel.size _⟩
      case round =>
        obtain ⟨seen, hr, ss, hp, hrow, hnil, hbel⟩ := hrel
        have hmr : wr.heap[ρ k]? = some (.map (es k) (clock k)) := (hbel.block _ hlk).trans hmk
        rcases next_at (P := Tryz.prog) wr wo.heap.size (ρ k) (clock k) seen (es k) hr hmr (K.born k hlt) with ⟨h0, hnx⟩ | ⟨e, he, w2, hnx, hr2, ho2, hs2, hos, htp, hout⟩
        · have hat2 : KeysAt w (onUpto es (k + 1)) u3 wr := by
            rw [onSeen_all _ _ (all_seen _ _ h0)] at hp
            exact ⟨ss, hp, hrow, hnil, hbel⟩
          clear hp hrow hnil hbel hmr hr h0 hmk
          go_wp2
          go_roundw
          case rel => exact ⟨k + 1, by omega, rfl, hat2⟩
          case measure => simp [intOf]; omega
        · obtain ⟨x, hkey, hlook⟩ := K.ent k hlt e (mem_left he).1
          have hbel2 := below_of hbel hbw.size ho2 hs2 hos htp hout
          have hrow2 := owns_of_same hrow hr ho2
          obtain ⟨c0, c1, c2, c3, hl2⟩ := hlook w2 hbel2
          have hm2 : w2.heap[ρ k]? = some (.map (es k) (clock k)) := (hbel2.block _ hlk).trans hmk
          have hen := run_entry_at (P := Tryz.prog) w2 wo.heap.size (ρ k) (clock k) seen (es k) (clock k) e hr2 hm2 (mem_left he).1 (K.nd k hlt)
          have hpush := onSeen_push seen e (mem_left he).2 (es k).toList (K.nd k hlt) (mem_left he).1
          have hshr := left_shrinks (es k) seen e he
          have hfld : (Instr.field 171 (.agg #[.int .i64 c0, .int .i64 c1, .int .i64 c2, .int .i64 c3, .bool (entOn e)]) 2).run Tryz.prog w2 = .ok (.bool (entOn e)) w2 := by kernel_rfl
          cases hon : entOn e with
          | false =>
            rw [hon] at hpush hl2 hfld
            simp only [cond_false] at hpush
            rw [hkey] at hnx hl2 hen
            have hin : KeysIn w (ρ k) (clock k) wo.heap.size (es k) (onUpto es k) u3 w2 := ⟨_, hr2, ss, hp.trans ((List.Perm.refl _).append hpush.symm), hrow2, hnil, hbel2⟩
            have hme : iterLeft (es k) wo.heap.size w2 < iterLeft (es k) wo.heap.size wr := by rw [iterLeft_eq hr2, iterLeft_eq hr]; exact hshr
            clear hp hrow hbel hmr hr hm2 hkey hlook hrow2 hbel2 hr2 ho2 hs2 hos htp hout hpush hshr hmk
            go_wp2
            go_roundw
            case rel => exact hin
            case measure => exact hme
          | true =>
            rw [hon] at hpush hl2 hfld
            simp only [cond_true] at hpush
            rw [hkey] at hnx hl2 hen hpush
            have hlen : ss.length + 1 < 4294967296 := by
              have l1 := hp.length_eq
              have l2 := hpush.length_eq
              have l3 := onSeen_le (es k).toList (seen.push e.born)
              have l4 := sizeUpto_mono es (k := k + 1) (m := 4) (by omega)
              have l5 := K.size
              have l6 := onUpto_length es k
              have l4' : sizeUpto es k + ((es k).toList.filter entOn).length ≤ sizeUpto es 4 := l4
              simp only [List.length_map, List.length_append, List.length_cons] at l1 l2
              clear l4
              omega
            have hmx : maxLen = 9223372036854775807 := by decide
            have hws : w.heap.size ≤ w2.heap.size := hbel2.size
            have hin : ∀ (v' : Value) (w3 : World), w3.heap[wo.heap.size]? = some (.mapIter (some (ρ k)) (clock k) (seen.push e.born) (clock k)) → w3.ownsRow w.heap.size 9 1 v' (ss.length + 1) (ss.map encStr ++ [encStr x]) → (v' = .slice none 0 0 ↔ ss.length + 1 = 0) → Go.RowKit.Below w.heap.size w w3 →
                KeysIn w (ρ k) (clock k) wo.heap.size (es k) (onUpto es k) v' w3 := fun v' w3 q1 q2 q3 q4 => by
              refine ⟨_, q1, ss ++ [x], ?_, by simpa using q2, ?_, q4⟩
              · rw [List.map_append]
                refine List.Perm.trans ?_ ((List.Perm.refl (onUpto es k)).append hpush.symm)
                refine List.Perm.trans (hp.append (List.Perm.refl _)) ?_
                rw [List.append_assoc]
                exact (List.Perm.refl _).append List.perm_append_comm
              · rw [q3]; simp
            have hme : ∀ w3 : World, w3.heap[wo.heap.size]? = some (.mapIter (some (ρ k)) (clock k) (seen.push e.born) (clock k)) → iterLeft (es k) wo.heap.size w3 < iterLeft (es k) wo.heap.size wr := fun w3 q => by rw [iterLeft_eq q, iterLeft_eq hr]; exact hshr
            have hrl : wo.heap.size < w2.heap.size := by
              rcases Nat.lt_or_ge wo.heap.size w2.heap.size with h | h
              · exact h
              · rw [Array.getElem?_eq_none h] at hr2; cases hr2
            clear hp hrow hbel hmr hr hm2 hkey hlook ho2 hs2 hos htp hout hpush hshr hmk
            go_wp2_with (at_builtin; refine wpList_append_own _ rfl _ _ 44 rfl w.heap.size 9 i0 (.string ⟨#[]⟩) 1 16 Tryz.underlying44 hi hz0 hz1 hz2 rfl (by decide) _ _ _ rfl (hrow2.alloc _) ⟨w2.heap.size, 0, none⟩ 1 1 [encStr x] rfl rfl (cell_one_new _ _ _) (by simp [Value.oneCell', encStr]) (by omega) (by omega) (by simp; omega) ?_; intro v' w3 hown' hg3 hnil3; go_frame)
            have hown2 : ∀ j, u3.ownBlock = some j → j ≠ wo.heap.size := fun j hj he => by
              rcases hrow2.2 with ⟨hv, _⟩ | ⟨g, cap, cur, hv, _, hg, _⟩
              · rw [hv] at hj; cases hj
              · rw [hv] at hj
                simp only [Value.ownBlock, Option.some.injEq] at hj
                rw [hj, he, hr2] at hg; cases hg
            have hit : w3.heap[wo.heap.size]? = some (.mapIter (some (ρ k)) (clock k) (seen.push e.born) (clock k)) := by
              rw [hg3.block wo.heap.size (by simp; omega) (fun h => hown2 _ (show u3.ownBlock = _ from h.symm) rfl), heap_alloc_old _ _ _ hrl]
              exact hr2
            go_roundw
            case rel => exact hin v' w3 hit hown' (by rw [hnil3]; simp) ((hbel2.alloc hws _).grown hg3 (by simp; omega) (fun j hj => (hrow2.lt j hj).1))
            case measure => exact hme w3 hit

theorem sortS_of_on {σ : Emb} {h : AHeap} {w : World} (H : HRel σ h w) {m m' : Value} {l : List (List UInt8)} (hm : VRel σ m m') (hs : stripe h m = some l) :
    ∃ (ρ : Nat) (ents : Array MapEntry) (clock : Nat), m' = .map (some ρ) ∧ w.heap[ρ]? = some (.map ents clock) ∧ MapOk ents.toList clock ∧ ((ents.toList.filter entOn).map (·.key)) = l.map encStr ∧
      (∀ e ∈ ents.toList, ∃ x : List UInt8, e.key = encStr x ∧ ∀ wr, Go.RowKit.Below w.heap.size w wr → ∃ c0 c1 c2 c3 : Int, (Instr.lookup 133 (.map (some ρ)) e.key false).run Tryz.prog wr = .ok (.agg #[.int .i64 c0, .int .i64 c1, .int .i64 c2, .int .i64 c3, .bool (entOn e)]) wr) := by
  unfold stripe at hs
  split at hs
  · rename_i r
    split at hs
    · rename_i es hes
      split at hs
      · rename_i ks l' hks hl'
        cases hb : risesS (sortS ks) with
        | false => rw [hb] at hs; cases hs
        | true =>
          rw [hb] at hs
          simp only [cond_true, Option.some.injEq] at hs; subst hs
          cases hm with
          | map hρ =>
            rename_i ρ
            obtain ⟨ents, clock, hmap, hE, hok⟩ := map_rel H hρ hes
            have hnd : ks.Nodup := (sortS_perm ks).nodup_iff.1 (List.Pairwise.imp (S := fun a b => a ≠ b) (fun {a b} (h : a < b) (e : a = b) => by subst e; exact List.lt_irrefl _ h) (risesS_pairwise hb))
            have hon : ∀ (es : List (Value × Value)) (ents : List MapEntry) (l : List (List UInt8)), ERels σ es ents → onKeys es = some l → ((ents.filter entOn).map (·.key)) = l.map encStr ∧
                ∀ e ∈ ents, ∃ (s : ByteArray) (v : Value) (b : Bool), (Value.string s, v) ∈ es ∧ e.key = .string s ∧ onOf v = some b ∧ entOn e = b := by
              intro es
              induction es with
              | nil =>
                intro ents l hE hl
                cases hE
                simp only [onKeys, Option.some.injEq] at hl; subst hl
                exact ⟨rfl, fun e he => by cases he⟩
              | cons x es ih =>
                intro ents l hE hl
                obtain ⟨xk, xv⟩ := x
                cases hE with
                | cons hk hv t =>
                  rename_i e ents
                  unfold onKeys at hl
                  split at hl
                  · rename_i heq; cases heq
                  · rename_i s v l2 heq
                    injection heq with q1 q2
                    injection q1 with q1 q1'
                    subst q1; subst q1'; subst q2
                    split at hl
                    · rename_i b r hb hr
                      injection hl with hl; subst hl
                      obtain ⟨i1, i2⟩ := ih ents r t hr
                      obtain ⟨ek, ev, eb⟩ := e
                      simp only at hk hv
                      cases hk
                      obtain ⟨c0, c1, c2, c3, rfl⟩ := onOf_rel hv hb
                      have hoe : entOn (⟨.string s, .agg #[.int .i64 c0, .int .i64 c1, .int .i64 c2, .int .i64 c3, .bool b], eb⟩ : MapEntry) = b := rfl
                      constructor
                      · rw [List.filter_cons, hoe]
                        cases b with
                        | true => simp only [if_true, List.map_cons, i1, cond_true]; rfl
                        | false => simp only [Bool.false_eq_true, if_false, i1, cond_false]
                      · intro e he
                        rcases List.mem_cons.1 he with rfl | he
                        · exact ⟨s, xv, b, List.mem_cons.2 (.inl rfl), rfl, hb, hoe⟩
                        · obtain ⟨s', v', b', j1, j2⟩ := i2 e he
                          exact ⟨s', v', b', List.mem_cons.2 (.inr j1), j2⟩
                    · cases hl
                  · cases hl
            obtain ⟨h1, h2⟩ := hon es ents.toList _ hE hl'
            refine ⟨ρ, ents, clock, rfl, hmap, hok, h1, fun e he => ?_⟩
            obtain ⟨s, v, b, hmem, hkey, hb', hoe⟩ := h2 e he
            refine ⟨strBytes s, by rw [hkey]; rfl, fun wr hbel => ?_⟩
            have Hr : HRel σ h wr := H.more hbel.block hbel.size
            have hlook : lookupA TB h 133 (.map (some r)) (.string s) false = some v := by
              unfold lookupA
              rw [und133, hes]
              have hfit : keyFits TB 9 (.string s) = true := by unfold keyFits; rw [und9]
              simp only [hfit, cond_true, findA_string s v es ks hks hnd hmem, cond_false]
            obtain ⟨v', r1, r2⟩ := run_lookup (P := Tryz.prog) okB Hr (.map hρ) (.string s) hlook
            obtain ⟨c0, c1, c2, c3, rfl⟩ := onOf_rel r1 hb'
            rw [hkey, hoe]
            exact ⟨c0, c1, c2, c3, r2⟩
      · cases hs
    · cases hs
  · cases hs

theorem keys_sound (T : Tab) (args : List Value) (h : AHeap) (v : Value) (h' : AHeap) (e : sumKeys args h = some (v, h')) : CallSound Tryz.prog T 51 args h v h' := by
  unfold sumKeys at e
  split at e
  · rename_i a
    split at e
    · rename_i cs hcs
      split at e
      · rename_i m0 m1 m2 m3 n0 n1 n2 n3
        split at e
        · rename_i l0 l1 l2 l3 s0 s1 s2 s3
          simp only at e
          cases hb : risesS (sortS (l0 ++ l1 ++ l2 ++ l3)) && Nat.blt (l0 ++ l1 ++ l2 ++ l3).length 4294967296 with
          | false => rw [hb] at e; cases e
          | true =>
            rw [hb] at e
            simp only [cond_true, Option.some.injEq] at e
            simp only [Bool.and_eq_true] at hb
            have hlen := Nat.blt_eq.mp hb.2
            intro σ w args' H G ra
            obtain ⟨al⟩ := args'
            cases ra with
            | cons r1 ra =>
              cases ra
              cases r1 with
              | ptr off hσ =>
                rename_i b β s
                obtain ⟨v0, q0, z0⟩ := cell_rel H hσ hcs n0
                obtain ⟨v1, q1, z1⟩ := cell_rel H hσ hcs n1
                obtain ⟨v2, q2, z2⟩ := cell_rel H hσ hcs n2
                obtain ⟨v3, q3, z3⟩ := cell_rel H hσ hcs n3
                obtain ⟨ρ0, e0, k0, rfl, a0, b0, d0, f0⟩ := sortS_of_on H z0 s0
                obtain ⟨ρ1, e1, k1, rfl, a1, b1, d1, f1⟩ := sortS_of_on H z1 s1
                obtain ⟨ρ2, e2, k2, rfl, a2, b2, d2, f2⟩ := sortS_of_on H z2 s2
                obtain ⟨ρ3, e3, k3, rfl, a3, b3, d3, f3⟩ := sortS_of_on H z3 s3
                let ρ : Nat → Nat := fun | 0 => ρ0 | 1 => ρ1 | 2 => ρ2 | _ => ρ3
                let es : Nat → Array MapEntry := fun | 0 => e0 | 1 => e1 | 2 => e2 | _ => e3
                let ck : Nat → Nat := fun | 0 => k0 | 1 => k1 | 2 => k2 | _ => k3
                have four : ∀ {p : Nat → Prop}, p 0 → p 1 → p 2 → p 3 → ∀ i, i < 4 → p i := fun h0 h1 h2 h3 i hi => by
                  match i, hi with
                  | 0, _ => exact h0
                  | 1, _ => exact h1
                  | 2, _ => exact h2
                  | 3, _ => exact h3
                have hup : onUpto es 4 = (l0 ++ l1 ++ l2 ++ l3).map encStr := by
                  show [] ++ ((e0.toList.filter entOn).map (·.key)) ++ ((e1.toList.filter entOn).map (·.key)) ++ ((e2.toList.filter entOn).map (·.key)) ++ ((e3.toList.filter entOn).map (·.key)) = _
                  rw [d0, d1, d2, d3]; simp
                have K : KeysOf Tryz.prog w 133 ρ es ck := {
                  map := four a0 a1 a2 a3
                  born := four b0.below b1.below b2.below b3.below
                  nd := four b0.nodup b1.nodup b2.nodup b3.nodup
                  ent := four f0 f1 f2 f3
                  size := by rw [← onUpto_length, hup, List.length_map]; exact hlen }
                refine (keys_walk β (s + off) ρ es ck w (H.old _ _ _ hσ).2 q0 (by rw [Nat.add_assoc]; exact q1) (by rw [Nat.add_assoc]; exact q2) (by rw [Nat.add_assoc]; exact q3) K).mono ?_
                rintro e9 w' ⟨v', ss, rfl, hp, hor, hnil, hbel⟩
                rw [hup] at hp
                have hp' : ss.Perm (l0 ++ l1 ++ l2 ++ l3) := by
                  have inj : ∀ (a b : List (List UInt8)), a.map encStr = b.map encStr → a = b := by
                    intro a
                    induction a with
                    | nil => intro b hb; cases b with
                      | nil => rfl
                      | cons y b => cases hb
                    | cons x a ih => intro b hb; cases b with
                      | nil => cases hb
                      | cons y b =>
                        simp only [List.map_cons, List.cons.injEq] at hb
                        rw [encStr_inj hb.1, ih b hb.2]
                  have dec : ∀ l : List (List UInt8), (l.map encStr).map (fun v => match v with | .string s => strBytes s | _ => []) = l := by
                    intro l
                    induction l with
                    | nil => rfl
                    | cons a l ih => simp only [List.map_cons, ih]; rfl
                  have := hp.map (fun v => match v with | .string s => strBytes s | _ => [])
                  rw [dec, dec] at this
                  exact this
                have hms : ss.mergeSort (fun x y => decide (x ≤ y)) = sortS (l0 ++ l1 ++ l2 ++ l3) := sorted_eq hb.1 hp'
                have hl : ss.length = (sortS (l0 ++ l1 ++ l2 ++ l3)).length := by rw [← hms, List.length_mergeSort]
                rw [hms] at hor
                have hflat : ∀ (τ : Emb) (l : List (List UInt8)), VRels τ (l.map AM.encS) (l.map encStr) := by
                  intro τ l
                  induction l with
                  | nil => exact .nil
                  | cons a l ih => exact .cons (.string _) ih
                obtain ⟨σ', S, hv⟩ := rowOfS_step H hor (by
                  rw [hnil, ← List.length_eq_zero_iff, hl, List.length_eq_zero_iff]
                  simp) (fun τ => hflat τ _) hbel
                rw [show (sortS (l0 ++ l1 ++ l2 ++ l3)).map encStr = (sortS (l0 ++ l1 ++ l2 ++ l3)).map AM.encS from rfl, e] at S hv
                exact ⟨_, σ', rfl, S, hv⟩
        · cases e
      · cases e
    · cases e
  · cases e
#print axioms keys_sound
end Go.Proofs.S1
