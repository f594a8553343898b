import Derived.Test.YtjiphiegpfleeaaGreatDoorRAmOp3
import Derived.Laws.BytesString
namespace Go.AM

section
variable {P : Program} {T : Tab} {σ : Emb} {h h' : AHeap} {w : World}

theorem snd_bin (hT : T.Ok P) (hF : FlatOk P T) (H : HRel σ h w) {op : BinOp} {t : Nat} {ox oy : Operand} {x y x' y' v : Value} (rx : VRel σ x x') (ry : VRel σ y y')
    (e : binA T (isConst ox || isConst oy) op t x y = some v) :
    OpRes P σ h w (do pure (.value (← (do eqGuard op t ox oy x' y'; binOp op t x' y')))) (.value v) h := by
  unfold binA at e
  split at e
  · rename_i k a k2 b
    cases rx; cases ry
    cases hb : decide (b < 0) with
    | true => rw [hb] at e; cases e
    | false =>
      rw [hb] at e; simp only [cond_false, Option.some.injEq] at e; subst e
      have hb' : ¬ b < 0 := of_decide_eq_false hb
      refine resPure H ?_ (.int _ _)
      simp only [Sem.run_bind]
      rw [show (eqGuard .shl t ox oy (.int k a) (.int k2 b)).run P w = .ok () w from rfl]
      simp only [Result.andThen_ok, binOp, Op.shift, Sem.run_ite, hb', if_false, Sem.run_pure]
  · rename_i k a k2 b
    cases rx; cases ry
    cases hb : decide (b < 0) with
    | true => rw [hb] at e; cases e
    | false =>
      rw [hb] at e; simp only [cond_false, Option.some.injEq] at e; subst e
      have hb' : ¬ b < 0 := of_decide_eq_false hb
      refine resPure H ?_ (.int _ _)
      simp only [Sem.run_bind]
      rw [show (eqGuard .shr t ox oy (.int k a) (.int k2 b)).run P w = .ok () w from rfl]
      simp only [Result.andThen_ok, binOp, Op.shift, Sem.run_ite, hb', if_false, Sem.run_pure]
  · rename_i k a k2 b _ _
    cases rx; cases ry
    cases hk : decide (k = k2) with
    | false => rw [hk] at e; cases e
    | true =>
      have hk' := of_decide_eq_true hk; subst hk'
      rw [hk] at e; simp only [cond_true] at e
      obtain ⟨r1, r2⟩ := run_intBin (P := P) (w := w) (σ := σ) t e
      refine resPure H ?_ r2
      simp only [Sem.run_bind]
      rw [show (eqGuard op t ox oy (.int k a) (.int k b)).run P w = .ok () w from by cases op <;> rfl]
      simp only [Result.andThen_ok, r1]
  · rename_i a b
    cases rx; cases ry
    obtain ⟨r1, r2⟩ := run_strBin (P := P) (w := w) (σ := σ) t e
    refine resPure H ?_ r2
    simp only [Sem.run_bind]
    rw [show (eqGuard op t ox oy (.string a) (.string b)).run P w = .ok () w from by cases op <;> rfl]
    simp only [Result.andThen_ok, r1]
  · split at e
    · rename_i b hb
      injection e with e; subst e
      obtain ⟨g, q, b1, _⟩ := run_eqA hT hF (w := w) rx ry hb
      refine resPure H ?_ (.bool _)
      simp only [Sem.run_bind, g, Result.andThen_ok, b1, q, Sem.run_pure]
    · cases e
  · split at e
    · rename_i b hb
      injection e with e; subst e
      obtain ⟨g, q, _, b1⟩ := run_eqA hT hF (w := w) rx ry hb
      refine resPure H ?_ (.bool _)
      simp only [Sem.run_bind, g, Result.andThen_ok, b1, q, Sem.run_pure]
    · cases e
  · cases e

theorem bytesOf_map : ∀ {l : List Value} {bs : List UInt8}, bytesOf l = some bs → ∃ ns : List Int, l = ns.map (Value.int .u8) ∧ bs = ns.map fun n => n.toNat.toUInt8
  | [], bs, h => by simp only [bytesOf, Option.some.injEq] at h; subst h; exact ⟨[], rfl, rfl⟩
  | v :: l, bs, h => by
    cases v with
    | int k n =>
      cases k <;> simp only [bytesOf] at h <;> first | (cases h; done) | skip
      split at h
      · rename_i r hr
        injection h with h; subst h
        obtain ⟨ns, h1, h2⟩ := bytesOf_map hr
        exact ⟨n :: ns, by rw [h1]; rfl, by rw [h2]; rfl⟩
      · cases h
    | _ => simp only [bytesOf] at h; cases h

theorem foldl_push : ∀ (ns : List Int) (b : ByteArray), (ns.foldl (fun r n => r.push (UInt8.ofNat n.toNat)) b) = ⟨b.data ++ (ns.map fun n => n.toNat.toUInt8).toArray⟩
  | [], b => by simp
  | n :: ns, b => by
    rw [List.foldl_cons, foldl_push ns]
    apply ByteArray.ext
    simp [ByteArray.push, Nat.toUInt8]

/-- the cells of a slice -/
theorem sliceCells_run (H : HRel σ h w) {b β s off n : Nat} {l : List Value} (hb : σ b = some (β, s)) (e : sliceCells h b off n = some l) :
    ∃ l', (loadCells ⟨β, s + off, none⟩ n).run P w = .ok l'.toArray w ∧ VRels σ l l' := by
  unfold sliceCells at e
  split at e
  · rename_i vs hvs
    obtain ⟨c, hc, hle, hr⟩ := cells_rel H hb hvs
    have hsl := seg_val e
    refine ⟨(c.toList.drop (s + off)).take n, ?_, ?_⟩
    · have hrel : VRels σ l ((c.toList.drop (s + off)).take n) := by
        have h1 := (hr.drop off).take n
        rw [hsl.1]
        have h2 : (((c.toList.drop s).take vs.length).drop off).take n = (c.toList.drop (s + off)).take n := by
          rcases seg_eq e with h3 | h3
          · rw [List.drop_take, List.drop_drop, List.take_take, Nat.min_eq_left (by omega)]
          · subst h3; simp
        rw [h2] at h1; exact h1
      have hlen := hrel.length
      have hll := hsl.2
      have := run_loadCells_list (P := P) w ⟨β, s + off, none⟩ ((c.toList.drop (s + off)).take n) (fun j u hj => by
        rw [add_none, hc.cell]
        have hjn : j < n := by
          rcases Nat.lt_or_ge j ((c.toList.drop (s + off)).take n).length with h' | h'
          · omega
          · rw [List.getElem?_eq_none h'] at hj; cases hj
        rw [List.getElem?_take_of_lt hjn, List.getElem?_drop] at hj
        simpa using hj)
      rw [show ((c.toList.drop (s + off)).take n).length = n by omega] at this
      exact this
    · have h1 := (hr.drop off).take n
      rw [hsl.1]
      have h2 : (((c.toList.drop s).take vs.length).drop off).take n = (c.toList.drop (s + off)).take n := by
        rcases seg_eq e with h3 | h3
        · rw [List.drop_take, List.drop_drop, List.take_take, Nat.min_eq_left (by omega)]
        · subst h3; simp
      rw [h2] at h1; exact h1
  · cases e

theorem VRels.bytes {ns : List Int} {l' : List Value} (h : VRels σ (ns.map (Value.int .u8)) l') : l' = ns.map (Value.int .u8) := by
  induction ns generalizing l' with
  | nil => cases h; rfl
  | cons n ns ih => cases h with
    | cons hv t => cases hv; rw [ih t]; rfl

theorem sliceCells_zero {h : AHeap} {b off : Nat} {l : List Value} (e : sliceCells h b off 0 = some l) : l = [] := by
  unfold sliceCells at e
  split at e
  · exact List.eq_nil_of_length_eq_zero (seg_val e).2
  · cases e

/-- what a slice value points to: its cells, where it has any -/
theorem slice_run (H : HRel σ h w) {a : Addr} {len kap : Nat} {v' : Value} (rx : VRel σ (.slice (some a) len kap) v') {k n : Nat} {l : List Value}
    (hn : n ≤ len) (hk : n = 0 ∨ a.spot = none) (e : sliceCells h a.block a.off (n * k) = some l) :
    ∃ a' cap, v' = .slice (some a') len cap ∧ ∃ l', (loadCells a' (n * k)).run P w = .ok l'.toArray w ∧ VRels σ l l' := by
  cases rx with
  | slice hb h1 h2 h3 =>
    rename_i b β s off o cap
    rcases h3 with ⟨rfl, _⟩ | h3
    · exact ⟨_, _, rfl, sliceCells_run H hb e⟩
    · subst h3
      have : n * k = 0 := by rw [show n = 0 by omega]; simp
      rw [this] at e ⊢
      refine ⟨_, _, rfl, [], rfl, ?_⟩
      rw [sliceCells_zero e]; exact .nil
  | tight hb =>
    have : n * k = 0 := by rw [show n = 0 by omega]; simp
    rw [this] at e ⊢
    refine ⟨_, _, rfl, [], rfl, ?_⟩
    rw [sliceCells_zero e]; exact .nil

def drawn1 (w : World) : World := ⟨w.heap, w.tape, w.drawn + 1, w.os, w.output⟩

theorem freeze_new (w : World) (c : Array Value) (el : TypeId) :
    ((drawn1 w).alloc (.cells c el)).freeze { block := w.heap.size, off := c.size } 1 = (drawn1 w).alloc (.cells c el (c.size, c.size + 1)) := by
  unfold World.freeze
  rw [if_neg (by decide)]
  show (⟨_, _, _, _, _⟩ : World) = ⟨_, _, _, _, _⟩
  congr 1
  apply Array.ext_getElem?
  intro i
  show ((w.heap.push (Obj.cells c el)).modify w.heap.size _)[i]? = (w.heap.push (Obj.cells c el (c.size, c.size + 1)))[i]?
  rw [Array.getElem?_modify, Array.getElem?_push, Array.getElem?_push]
  by_cases hi : i = w.heap.size
  · subst hi; simp
  · rw [if_neg (fun h => hi h.symm), if_neg hi, if_neg hi]

theorem run_stringToBytes (P : Program) (w : World) (el : TypeId) (s : ByteArray) (c : Array Value) (cap : Nat) (hcap : cap = Question.cut (.appendCap s.size 0 el) (w.tape w.drawn (.appendCap s.size 0 el)))
    (hc : c = (s.data.map fun b => Value.int .u8 b.toNat) ++ Array.replicate (cap - s.size) (.int .u8 0)) :
    (Conv.stringToBytes el s).run P w = .ok (.slice (some ⟨w.heap.size, 0, none⟩) s.size cap) ((drawn1 w).alloc (.cells c el (c.size, c.size + 1))) := by
  unfold Conv.stringToBytes
  rw [Sem.run_bind, run_choose, if_neg (by simp [Question.forced])]
  simp only [Result.andThen_ok, Sem.run_bind, ← hcap, run_newRow]
  rw [← hc]
  have hsh : ((drawn1 w).alloc (.cells c el)).shape? w.heap.size = some (el, c.size) := by
    show (match (w.heap.push (Obj.cells c el))[w.heap.size]? with | some (.cells c elem _) => some (elem, c.size) | _ => none) = _
    simp
  have hm : (markStringish ⟨w.heap.size, 0, none⟩).run P ((drawn1 w).alloc (.cells c el)) = .ok () ((drawn1 w).alloc (.cells c el (c.size, c.size + 1))) := by
    unfold markStringish
    rw [Sem.run_bind, run_shape]
    simp only [Result.andThen_ok, hsh]
    rw [run_freeze, freeze_new]
  exact (congrArg (fun r => Result.andThen r fun _ w' => Sem.run P (pure (Value.slice (some ⟨w.heap.size, 0, none⟩) s.size cap)) w') hm).trans rfl

theorem snd_conv (hT : T.Ok P) (H : HRel σ h w) {src dst : Nat} {x x' v : Value} (rx : VRel σ x x') (e : convA T h src dst x = some (v, h')) :
    OpRes P σ h w (do pure (.value (← convert src dst x'))) (.value v) h' := by
  unfold convA at e
  split at e
  · rename_i d1 k k2 n hs hd
    injection e with e; injection e with e1 e2; subst e1; subst e2
    cases rx
    refine resPure H ?_ (.int _ _)
    simp only [convert, Sem.run_bind, run_und w (hT.und _ _ hs), run_und w (hT.und _ _ hd), Result.andThen_ok, Conv.intToInt, Sem.run_pure]
  · rename_i s hs hd
    injection e with e; injection e with e1 e2; subst e1; subst e2
    cases rx
    refine resPure H ?_ (.string _)
    simp only [convert, Sem.run_bind, run_und w (hT.und _ _ hs), run_und w (hT.und _ _ hd), Result.andThen_ok, Sem.run_pure]
  · rename_i el s hs hd
    split at e
    · rename_i he
      injection e with e; injection e with e1 e2; subst e1; subst e2
      cases rx
      let cap := Question.cut (.appendCap s.size 0 el) (w.tape w.drawn (.appendCap s.size 0 el))
      have hcap : s.size ≤ cap := by simp only [cap, Question.cut]; omega
      let c : Array Value := (s.data.map fun b => Value.int .u8 b.toNat) ++ Array.replicate (cap - s.size) (.int .u8 0)
      have hcs : c.size = cap := by simp only [c]; simp; have : s.data.size = s.size := rfl; omega
      let w1 : World := drawn1 w
      have H1 : HRel σ h w1 := H.drawn rfl
      have hrel : VRels σ ((strBytes s).map fun b => Value.int .u8 b.toNat) (c.toList.take ((strBytes s).map fun b => Value.int .u8 b.toNat).length) := by
        have : c.toList.take ((strBytes s).map fun b => Value.int .u8 b.toNat).length = (strBytes s).map fun b => Value.int .u8 b.toNat := by
          simp only [c, strBytes, Array.toList_append, Array.toList_map]
          rw [List.take_left' (by simp)]
        rw [this]
        have : ∀ l : List UInt8, VRels σ (l.map fun b => Value.int .u8 b.toNat) (l.map fun b => Value.int .u8 b.toNat) := fun l => by
          induction l with
          | nil => exact .nil
          | cons b l ih => exact .cons (.int _ _) ih
        exact this _
      have hlen : ((strBytes s).map fun b => Value.int .u8 b.toNat).length = s.size := by simp [strBytes]
      have S1 : Step σ h w σ h w1 := Step.drawn H rfl rfl rfl rfl
      have S2 := newRow_step H1 el 1 (c := c) (fr := (c.size, c.size + 1)) (.inr (Nat.le_refl _)) (by omega) hrel
      refine resStep (S1.trans S2) (v' := .slice (some ⟨w.heap.size, 0, none⟩) s.size cap) ?_ ?_
      · simp only [convert, Sem.run_bind, run_und w (hT.und _ _ hs), run_und w (hT.und _ _ hd), Result.andThen_ok, run_und w (hT.und _ _ he)]
        exact run_stringToBytes P w el s c cap rfl rfl
      · have := newRow_val σ h w1 (k := 1) (lim := c.size) (n := s.size) (m := s.size) (cap := cap) (Nat.le_refl _) hcap (.inr (by omega))
        exact this
    · cases e
  · rename_i el a n cap hs hd
    split at e
    · rename_i he
      injection e with e; injection e with e1 e2; subst e1; subst e2
      cases rx
      refine resPure H (v' := .string ⟨#[]⟩) ?_ (.string _)
      rw [run_convert_bytes_string w src dst el _ _ _ (hT.und _ _ hs) (hT.und _ _ he) (hT.und _ _ hd)]
      rfl
    · rename_i a he
      split at e
      · rename_i l hl
        split at e
        · rename_i bs hbs
          injection e with e; injection e with e1 e2; subst e1; subst e2
          have hsp : n = 0 ∨ a.spot = none := by
            cases rx with
            | slice => exact .inr rfl
            | tight => exact .inl rfl
          obtain ⟨a', cap', rfl, l', hr, hv⟩ := slice_run (P := P) H rx (k := 1) (n := n) (Nat.le_refl _) hsp (by rw [Nat.mul_one]; exact hl)
          obtain ⟨ns, rfl, rfl⟩ := bytesOf_map hbs
          have := hv.bytes; subst this
          rw [Nat.mul_one] at hr
          refine resPure H (v' := strOf (ns.map fun n => n.toNat.toUInt8)) ?_ (.string _)
          rw [run_convert_bytes_string w src dst el _ _ _ (hT.und _ _ hs) (hT.und _ _ he) (hT.und _ _ hd), run_bytesToString w a' n cap' ns hr, foldl_push]
          simp [strOf]
        · cases e
      · cases e
    · cases e
  · cases e
end
end Go.AM
