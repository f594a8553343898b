import Derived.Test.YtjiphiegpfleeaaGreatDoorRAmDraw7
namespace Go.AM
section
variable {P : Program} {T : Tab} {n : Nat} {all : List Oper} {e0 e' : Trie Value} {h0 h' : AHeap} {tr : List (Nat × TE)} {A B : Nat → AHeap}
variable {σ0 σ : Emb} {a0 a : Act} {w0 w : World} {D : Nat → Prop} {m : Nat}

theorem es_mem {q : Nat} {y : Oper × Nat} (h : (esOf all)[q]? = some y) : all[y.2]? = some y.1 ∧ isEf y.1.op = true := by
  have h1 := List.mem_of_getElem? h
  rw [List.mem_filter] at h1
  exact ⟨idx0_mem.mp h1.1, h1.2⟩

theorem es_sorted : (esOf all).Pairwise fun x y => x.2 < y.2 := (idx_sorted all 0).filter _

/-- an operation that does not act, and is ready: how many must be ahead of it, how many may -/
theorem Inv.ranks (C : Ctx P T n all e0 e' h0 h' tr A B) (I : Inv P T n all e0 h0 tr A B σ0 a0 w0 D m σ a w) {i : Nat} {o : Oper} (ho : all[i]? = some o) (hD : ¬ D i)
    (hr : ∀ e ∈ o.after.toList, Region.binds .any e = true → D e.on) :
    rank (msOf all) (lOf all) i ≤ m ∧ m ≤ count (fun x => isEf x.1.op && !bit (msOf all) x.2 i) (lOf all) := by
  constructor
  · unfold rank
    rw [count_filter (fun x : Oper × Nat => isEf x.1.op) (fun x => bit (msOf all) i x.2)]
    refine count_le_at _ m fun k x hx hb => ?_
    exact (I.acts k x hx).mp (bit_closed C.st.topo I.closed i o ho hr x.2 hb)
  · rw [count_filter (fun x : Oper × Nat => isEf x.1.op) (fun x => !bit (msOf all) x.2 i)]
    refine le_count_at _ m I.le fun k x hx hk => ?_
    cases hb : bit (msOf all) x.2 i with
    | false => rfl
    | true => exact absurd (bit_done C.st.topo I.closed (es_mem hx).1 ((I.acts k x hx).mpr hk) hb) hD

/-- what the test of the m-th heap says -/
theorem Inv.check (C : Ctx P T n all e0 e' h0 h' tr A B) (I : Inv P T n all e0 h0 tr A B σ0 a0 w0 D m σ a w) {x : Nat × TE} {o : Oper} (hx : x ∈ tr) (ho : all[x.1]? = some o) (hD : ¬ D x.1)
    (hr : ∀ e ∈ o.after.toList, Region.binds .any e = true → D e.on) (he : isEf o.op = false) (hrun : x.2.run = true) (hq : rank (msOf all) (lOf all) x.1 < m) :
    (bif isAl o.op then (match (A m).objs.get x.2.hB.next, x.2.hA.objs.get x.2.hB.next with
        | some (.var a), some (.var b) => sameCells a b
        | some (.row a k f v), some (.row b k' f' v') => sameCells a b && Nat.beq k k' && Nat.beq f f' && Nat.beq v v' && (match (A m).fams.get f with | none => true | some _ => false)
        | _, _ => false)
      else match opA T (A m) x.2.e.get o.op with
        | some (.value v, g) => sameVal v x.2.v && Nat.beq g.next (A m).next
        | _ => false) = true := by
  obtain ⟨_, hm2⟩ := I.ranks C ho hD hr
  have hm1 : m - 1 < (esOf all).length := by have := I.le; omega
  have h1 := heapsOk_get C.hk (C.R.acts (m - 1) hm1)
  have e1 : 0 + 1 + (m - 1) = m := by omega
  have e2 : 0 + (m - 1) + 1 = m := by omega
  rw [e1, e2] at h1
  unfold heapOk at h1
  rw [List.all_eq_true] at h1
  have h2 := h1 x hx
  simp only [nth_eq, ho] at h2
  unfold entryOk at h2
  simp only [Bool.or_eq_true] at h2
  rcases h2 with (((h2 | h2) | h2) | h2) | h2
  · rw [he] at h2; cases h2
  · have := Nat.ble_eq.mp h2; omega
  · have := Nat.blt_eq.mp h2; omega
  · rw [hrun] at h2; cases h2
  · exact h2

theorem Inv.op (C : Ctx P T n all e0 e' h0 h' tr A B) (ihc : ∀ m, m < n → ∀ f args h v h', runCall T m f args h = some (v, h') → CallSound P T f args h v h')
    {ops : Array Oper} (hops : all = ops.toList) (I : Inv P T n all e0 h0 tr A B σ0 a0 w0 D m σ a w) {i : Nat} {o : Oper} (ho : all[i]? = some o) (hD : ¬ D i)
    (hr : ∀ e ∈ o.after.toList, Region.binds .any e = true → D e.on) (hdst : dstOk a0.tmps.size o = true) {Q : Exit → Act → World → Prop} {K : Act → World → Prop}
    (hK : ∀ m' σ' v' w', Inv P T n all e0 h0 tr A B σ0 a0 w0 (fun j => D j ∨ j = i) m' σ' (a.put o.dst v') w' → K (a.put o.dst v') w') : wpOp P ops Q i K a w := by
  obtain ⟨te, hx⟩ := C.ent ho
  have F := I.look C hx ho hD hr
  have hopi : ops[i]? = some o := by rw [hops] at ho; simpa using ho
  unfold wpOp
  simp only [hopi]
  have hwant : ∀ b, wantedA all te.e.get o = some b → Region.wanted o (yielded ops a.tmps) = b := fun b hb =>
    wanted_rel F (by rw [← hops, look_want]; exact hb)
  cases he : isEf o.op with
  | false =>
    obtain ⟨q, hq1, hq2, hp, hm1, hm2⟩ := C.pure hx ho he
    simp only at hp hm1 hm2 hq2
    obtain ⟨hle, _⟩ := I.ranks C ho hD hr
    rw [hq2] at hle
    have hacts : ∀ (q : Nat) y, (esOf all)[q]? = some y → ((D y.2 ∨ y.2 = i) ↔ q < m) := fun k y hy => by
      rw [← I.acts k y hy]
      refine ⟨fun h => h.resolve_right fun hyi => ?_, .inl⟩
      have := es_mem hy
      rw [hyi, ho] at this
      obtain ⟨h1, h2⟩ := this
      injection h1 with h1; rw [← h1, he] at h2; cases h2
    obtain ⟨σA, wA, HA⟩ := I.base
    have hBel := HA.belowH
    rw [hwant te.run hp.want]
    cases hrun : te.run with
    | false =>
      obtain ⟨hv, _⟩ := hp.off hrun
      rw [if_neg (by simp)]
      refine hK m σ undef w (I.put C hx ho hD hr hdst I.le hacts (Emb.le_refl σ) I.step (by rw [hv]; exact undef_rel σ) (fun y hy p h1 h2 h3 h4 => ?_) I.base)
      obtain ⟨g1, g2⟩ := I.unmade y hy p h1 h2 h3 h4
      exact ⟨g1, fun h => g2 fun h' => h (.inl h')⟩
    | true =>
      rw [if_pos rfl]
      left
      have hon := hp.on hrun
      cases hal : isAl o.op with
      | false =>
        have hrd : isRd o.op = true := by
          unfold isEf at he; rw [hal] at he; simpa using he
        have hsame := hp.same hal
        have hop : opA T (B m) te.e.get o.op = some (.value te.v, B m) := by
          rcases Nat.lt_or_ge q m with hlt | hge
          · have hc := I.check C hx ho hD hr he hrun (by rw [hq2]; exact hlt)
            rw [hal] at hc
            simp only [cond_false] at hc
            split at hc
            · rename_i v g hv
              simp only [Bool.and_eq_true] at hc
              obtain ⟨rfl, _⟩ := rd_same hrd hv (Nat.eq_of_beq_eq_true hc.2)
              rw [sameVal_eq hc.1] at hv
              exact opA_mono hrd hv (C.R.made m (Nat.zero_le _) (by rw [Nat.zero_add]; exact I.le)).grows hBel
            · cases hc
          · have : q = m := by omega
            subst this
            rw [hsame] at hon hm2
            exact opA_mono hrd hon hm2.grows (hm1.under hBel)
        obtain ⟨w1, σ1, S1, hn⟩ := opA_sound C.good I.step.rel F I.glob (o := o) (by rw [look_op]; exact hop)
        unfold Oper.wp
        generalize hgr : (execOp a.eval o).run P w = r at hn
        cases hn with
        | value rv =>
          refine hK m σ1 _ w1 (I.put C hx ho hD hr hdst I.le hacts S1.le (I.step.trans S1) rv (fun y hy p h1 h2 h3 h4 => ?_) I.base)
          obtain ⟨g1, g2⟩ := I.unmade y hy p h1 h2 h3 h4
          refine ⟨g1, fun h => ?_⟩
          have hnone := g2 fun h' => h (.inl h')
          cases hs : σ1 y.2.hB.next with
          | none => rfl
          | some z =>
            rcases S1.newid _ z hs with h5 | h5
            · rw [hnone] at h5; cases h5
            · omega
      | true =>
        obtain ⟨an, vf, hv, hnew, hal2⟩ := al_run (P := P) (e := fun t => if t ∈ looks all o then te.e.get t else none) C.good hal (by rw [look_op]; exact hon)
        have hv2 : te.v = vf te.hB.next := by injection hv
        have hidN : te.hA.objs.get te.hB.next = some (an.obj te.hB.next) := by rw [hnew, objs_new, if_pos rfl]
        obtain ⟨hlt, hnone⟩ := I.unmade _ hx o ho hal hrun (by rw [hq2]; exact hle)
        have hno := hnone hD
        simp only at hlt hno
        have hAB : Made (A m) (B m) := C.R.made m (Nat.zero_le _) (by rw [Nat.zero_add]; exact I.le)
        -- the thing stands in the heap at hand
        have hobj : (B m).objs.get te.hB.next = some (an.obj te.hB.next) ∧ (∀ vs k, an = .row vs k → (B m).fams.get te.hB.next = none) := by
          rcases Nat.lt_or_ge q m with hlt2 | hge
          · have hc := I.check C hx ho hD hr he hrun (by rw [hq2]; exact hlt2)
            rw [hal] at hc
            simp only [cond_true, hidN] at hc
            have key : (A m).objs.get te.hB.next = some (an.obj te.hB.next) ∧ (∀ vs k, an = .row vs k → (A m).fams.get te.hB.next = none) := by
              cases an with
              | var vs =>
                simp only [ANew.obj] at hc ⊢
                split at hc
                · rename_i g1 g2
                  injection g2 with g2; injection g2 with g2; subst g2
                  rw [g1, sameCells_eq hc]
                  exact ⟨rfl, fun vs k h => by cases h⟩
                · rename_i g1 g2; cases g2
                · cases hc
              | row vs k =>
                simp only [ANew.obj] at hc ⊢
                split at hc
                · rename_i g1 g2; cases g2
                · rename_i g1 g2
                  cases g2
                  simp only [Bool.and_eq_true] at hc
                  obtain ⟨⟨⟨⟨c1, c2⟩, c3⟩, c4⟩, c5⟩ := hc
                  rw [g1, sameCells_eq c1, Nat.eq_of_beq_eq_true c2, Nat.eq_of_beq_eq_true c3, Nat.eq_of_beq_eq_true c4]
                  refine ⟨rfl, fun _ _ _ => ?_⟩
                  rw [Nat.eq_of_beq_eq_true c3] at c5
                  split at c5
                  · assumption
                  · cases c5
                · cases hc
            refine ⟨hAB.grows.get hBel key.1, fun vs k h => ?_⟩
            rw [hAB.grows.fams]; exact key.2 vs k h
          · have : q = m := by omega
            subst this
            have hbelA : Below te.hA := by
              rw [hnew]; exact (Made.new (.refl te.hB) an).under (hm1.under hBel)
            refine ⟨hm2.grows.get hbelA hidN, fun vs k _ => ?_⟩
            rw [hAB.grows.fams]
            cases hf : (A q).fams.get te.hB.next with
            | none => rfl
            | some z =>
              have h1 := HA.famnext _ z hf
              have h2 := hm1.grows.next
              omega
        obtain ⟨x', v', hx1, hx2, hx3⟩ := hal2 σ w a F I.glob
        obtain ⟨le, HR⟩ := I.step.rel.realize hobj.1 hobj.2 hno hlt hx2
        have hidh : h0.next ≤ te.hB.next := C.nextLe hx
        have S : Step σ0 h0 w0 (σ.ext te.hB.next (w.heap.size, 0) (newKl (an.obj te.hB.next) x')) (B m) (w.alloc x') := by
          refine ⟨Emb.le_trans I.step.le le, HR, fun β hβ hn => ?_, ?_, I.step.next, fun b β s hb hβ => ?_, fun b z hb => ?_, I.step.os, I.step.output⟩
          · rw [← I.step.frame β hβ hn]
            have := I.step.size
            simp only [World.alloc, Array.getElem?_push]; rw [if_neg (by omega)]
          · have := I.step.size; simp; omega
          · by_cases hbi : b = te.hB.next
            · subst hbi; rw [Emb.ext_same] at hb; injection hb with hb; injection hb with hb1 hb2
              have := I.step.size; omega
            · rw [Emb.ext_ne _ _ _ hbi] at hb; exact I.step.range b β s hb hβ
          · by_cases hbi : b = te.hB.next
            · exact .inr (by omega)
            · rw [Emb.ext_ne _ _ _ hbi] at hb; exact I.step.newid b z hb
        have rv : VRel (σ.ext te.hB.next (w.heap.size, 0) (newKl (an.obj te.hB.next) x')) te.v v' := by
          rw [hv2]; exact hx3 _ _ (Emb.ext_same ..) (Emb.kl_same ..)
        unfold Oper.wp
        rw [hx1]
        refine hK m _ v' _ (I.put C hx ho hD hr hdst I.le hacts le S rv (fun y hy p h1 h2 h3 h4 => ?_) I.base)
        obtain ⟨g1, g2⟩ := I.unmade y hy p h1 h2 h3 h4
        refine ⟨g1, fun h => ?_⟩
        have hyi : y.1 ≠ i := fun h' => h (.inr h')
        have hyn : y.2.hB.next ≠ te.hB.next := by
          refine C.nextLt hy hx hyi ?_ (by simp only; rw [hnew]; rfl)
          obtain ⟨_, _, _, hyp, _, _⟩ := C.pure hy h1 (by unfold isEf; rw [h2]; rfl)
          obtain ⟨an2, vf2, _, hnew2, _⟩ := al_run (P := P) C.good h2 (hyp.on h3)
          rw [hnew2]; rfl
        rw [Emb.ext_ne _ _ _ hyn]
        exact g2 fun h' => h (.inl h')
  | true =>
    obtain ⟨q, hq, hB, hA, hf⟩ := C.act hx ho he
    simp only at hq hB hA hf
    have hqm : ¬ q < m := fun h => hD ((I.acts q _ hq).mpr h)
    have hql : q < (esOf all).length := by
      rcases Nat.lt_or_ge q (esOf all).length with h | h
      · exact h
      · rw [List.getElem?_eq_none h] at hq; cases hq
    have hqe : q = m := by
      rcases Nat.lt_or_ge m q with hlt | hge
      · obtain ⟨y, hy⟩ : ∃ y, (esOf all)[m]? = some y := ⟨_, List.getElem?_eq_getElem (by omega)⟩
        have hy2 := es_mem hy
        have hlt2 := sorted_lt es_sorted hy hq hlt
        have hb := C.st.acts i y.2 o y.1 ho hy2.1 he hy2.2 hlt2
        have := (I.acts m y hy).mp (bit_closed C.st.topo I.closed i o ho hr y.2 hb)
        omega
      · omega
    subst hqe
    have hacts : ∀ (k : Nat) y, (esOf all)[k]? = some y → ((D y.2 ∨ y.2 = i) ↔ k < q + 1) := fun k y hy => by
      constructor
      · rintro (h | h)
        · have := (I.acts k y hy).mp h; omega
        · rcases Nat.lt_trichotomy k q with h1 | h1 | h1
          · omega
          · omega
          · have := sorted_lt es_sorted hq hy h1; simp only at this; omega
      · intro h
        rcases Nat.lt_or_ge k q with h1 | h1
        · exact .inl ((I.acts k y hy).mpr h1)
        · have : k = q := by omega
          subst this
          rw [hq] at hy; injection hy with hy; subst hy
          exact .inr rfl
    have hAB : Made (A (q + 1)) (B (q + 1)) := C.R.made (q + 1) (Nat.zero_le _) (by rw [Nat.zero_add]; omega)
    -- the state behind the operation
    have fin : ∀ (σ1 : Emb) (w1 : World) (v' : Value), Step σ (B q) w σ1 (A (q + 1)) w1 → VRel σ1 te.v v' → K (a.put o.dst v') w1 := by
      intro σ1 w1 v' S1 rv
      refine hK (q + 1) σ1 v' w1 (I.put C hx ho hD hr hdst (by omega) hacts S1.le ((I.step.trans S1).madeH hAB) rv (fun y hy p h1 h2 h3 h4 => ?_) ⟨σ1, w1, S1.rel⟩)
      have hnx : (B q).next ≤ (B (q + 1)).next := Nat.le_trans S1.next hAB.grows.next
      obtain ⟨qy, _, hqy, hyp, hym1, hym2⟩ := C.pure hy h1 (by unfold isEf; rw [h2]; rfl)
      obtain ⟨an2, vf2, _, hnew2, _⟩ := al_run (P := P) C.good h2 (hyp.on h3)
      have hnext : y.2.hA.next = y.2.hB.next + 1 := by rw [hnew2]; rfl
      rcases Nat.lt_or_ge q qy with hlt | hge
      · have hqq : qy = q + 1 := by omega
        subst hqq
        have g1 := hym1.grows.next
        have g2 := hym2.grows.next
        refine ⟨by omega, fun _ => ?_⟩
        cases hs : σ1 y.2.hB.next with
        | none => rfl
        | some z => have := (S1.rel.old _ z.1 z.2 hs).1; omega
      · obtain ⟨g1, g2⟩ := I.unmade y hy p h1 h2 h3 (by omega)
        refine ⟨by omega, fun h => ?_⟩
        have hnone := g2 fun h' => h (.inl h')
        cases hs : σ1 y.2.hB.next with
        | none => rfl
        | some z =>
          rcases S1.newid _ z hs with h5 | h5
          · rw [hnone] at h5; cases h5
          · omega
    cases hf with
    | off hw hv hs =>
      rw [hwant false hw, if_neg (by simp)]
      have hS : Step σ (B q) w σ (A (q + 1)) w := by rw [← hA, hs, hB]; exact Step.refl I.step.rel
      exact fin σ w undef hS (by rw [hv]; exact undef_rel σ)
    | value hw hv =>
      rw [hwant true hw, if_pos rfl]
      left
      rw [hB, hA] at hv
      obtain ⟨w1, σ1, S1, hn⟩ := opA_sound C.good I.step.rel F I.glob (o := o) (by rw [look_op]; exact hv)
      unfold Oper.wp
      generalize hgr : (execOp a.eval o).run P w = r at hn
      cases hn with
      | value rv => exact fin σ1 w1 _ S1 rv
    | skip hw hv hu =>
      rw [hwant true hw, if_pos rfl]
      left
      rw [hB, hA] at hv
      obtain ⟨w1, σ1, S1, hn⟩ := opA_sound C.good I.step.rel F I.glob (o := o) (by rw [look_op]; exact hv)
      unfold Oper.wp
      generalize hgr : (execOp a.eval o).run P w = r at hn
      cases hn with
      | skip => exact fin σ1 w1 _ S1 (by rw [hu]; exact undef_rel σ1)
    | enter hw hv hm hc =>
      rename_i g args h1 m'
      rw [hwant true hw, if_pos rfl]
      left
      rw [hB] at hv
      rw [hA] at hc
      obtain ⟨w1, σ1, S1, hn⟩ := opA_sound C.good I.step.rel F I.glob (o := o) (by rw [look_op]; exact hv)
      unfold Oper.wp
      generalize hgr : (execOp a.eval o).run P w = r at hn
      cases hn with
      | enter ra =>
        show Calls P g _ w1 _
        refine (ihc m' hm g args h1 te.v _ hc σ1 w1 _ S1.rel (I.glob.mono S1.le) ra).mono ?_
        rintro z w2 ⟨v', σ2, rfl, S2, rv⟩
        exact fin σ2 w2 v' (S1.trans S2) rv

theorem wpAny_done {ops : Array Oper} {Q : Exit → Act → World → Prop} {listed : Array Bool} (ht : Topo ops.toList) (hsz : listed.size = ops.size) (hr : Region.ready .any ops listed = []) :
    ∀ i, i < ops.size → listed.getD i false = true := by
  intro i
  induction i using Nat.strongRecOn with
  | _ i ih =>
    intro hi
    cases hl : listed.getD i false with
    | true => rfl
    | false =>
      have hmem : i ∈ Region.ready .any ops listed := by
        rw [mem_ready]
        refine ⟨?_, ops[i], Array.getElem?_eq_getElem hi, fun e he hb => ?_⟩
        · have : i < listed.size := by omega
          simp [this] at hl ⊢; exact hl
        · have hlt := ht i ops[i] (by simp [hi]) e (by simpa using he) hb
          exact ih e.on hlt (by omega)
      rw [hr] at hmem; cases hmem

theorem draw_any (C : Ctx P T n all e0 e' h0 h' tr A B) (ihc : ∀ m, m < n → ∀ f args h v h', runCall T m f args h = some (v, h') → CallSound P T f args h v h')
    {ops : Array Oper} (hops : all = ops.toList) (hdst : ops.toList.all (dstOk a0.tmps.size) = true) :
    ∀ (fuel : Nat) (listed : Array Bool) (m : Nat) (σ : Emb) (a : Act) (w : World), listed.size = ops.size → count (fun b => !b) listed.toList = fuel →
      Inv P T n all e0 h0 tr A B σ0 a0 w0 (fun i => listed.getD i false = true) m σ a w → wpAny P .any ops (CodePost σ0 h0 w0 a0 .normal e' h') fuel listed a w := by
  have fin : ∀ (listed : Array Bool) (m : Nat) (σ : Emb) (a : Act) (w : World), (∀ i, i < ops.size → listed.getD i false = true) →
      Inv P T n all e0 h0 tr A B σ0 a0 w0 (fun i => listed.getD i false = true) m σ a w → CodePost σ0 h0 w0 a0 .normal e' h' .normal a w := by
    intro listed m σ a w hall I
    have hD : ∀ (i : Nat) o, all[i]? = some o → listed.getD i false = true := by
      intro i o ho
      refine hall i ?_
      rw [hops] at ho
      rcases Nat.lt_or_ge i ops.size with h | h
      · exact h
      · rw [List.getElem?_eq_none (by simpa using h)] at ho; cases ho
    have hm : m = (esOf all).length := by
      have h1 := I.le
      rcases Nat.lt_or_ge m (esOf all).length with h | h
      · obtain ⟨y, hy⟩ : ∃ y, (esOf all)[m]? = some y := ⟨_, List.getElem?_eq_getElem h⟩
        have := (I.acts m y hy).mp (hD y.2 y.1 (es_mem hy).1)
        omega
      · omega
    refine ⟨rfl, σ, ?_, ?_, I.size, I.defers⟩
    · have := I.step
      rw [hm] at this
      rw [← C.R.last, Nat.zero_add]
      exact this
    · intro t u hu
      rw [C.R.env] at hu
      rcases after_get (all := all) t tr e0 with ⟨y, h1, h2, h3⟩ | ⟨h1, h2⟩
      · rw [h3] at hu; injection hu with hu; subst hu
        obtain ⟨p, hp, _⟩ := dstOf_some h2
        exact I.done y h1 t (hD _ p hp) h2
      · rw [h2] at hu
        refine I.rest t u (fun i _ hd => ?_) hu
        obtain ⟨p, hp, _⟩ := dstOf_some hd
        obtain ⟨te, hte⟩ := C.ent hp
        exact h1 _ hte hd
  have ht : Topo ops.toList := hops ▸ C.st.topo
  intro fuel
  induction fuel with
  | zero =>
    intro listed m σ a w hsz hc I
    have hall : ∀ i, i < ops.size → listed.getD i false = true := by
      intro i hi
      cases hl : listed.getD i false with
      | true => rfl
      | false =>
        have : i < listed.size := by omega
        exact absurd (by simp [this] at hl ⊢; exact hl) (count_zero (i := i) hc)
    refine ⟨?_, fin listed m σ a w hall I⟩
    cases hr : Region.ready .any ops listed with
    | nil => rfl
    | cons j r =>
      have hj : j ∈ Region.ready .any ops listed := by rw [hr]; exact List.mem_cons_self ..
      obtain ⟨h1, o, h2, _⟩ := mem_ready.mp hj
      have hjs : j < ops.size := (Array.getElem?_eq_some_iff.1 h2).1
      have h3 := hall j hjs
      have : j < listed.size := by omega
      simp [this] at h1 h3
      rw [h1] at h3; cases h3
  | succ fuel ih =>
    intro listed m σ a w hsz hc I
    refine ⟨fun hr => fin listed m σ a w (wpAny_done (Q := CodePost σ0 h0 w0 a0 .normal e' h') ht hsz hr) I, fun i hi => ?_⟩
    obtain ⟨h1, o, h2, h3⟩ := mem_ready.mp hi
    have his : i < ops.size := (Array.getElem?_eq_some_iff.1 h2).1
    have hil : i < listed.size := by omega
    have hlf : listed[i] = false := by simpa [hil] using h1
    have ho : all[i]? = some o := by rw [hops]; simpa using h2
    refine I.op C ihc hops ho (by simp [hil, hlf]) (fun e he hb => h3 e (by simpa using he) hb) ?_ (fun m' σ' v' w' I' => ?_)
    · rw [List.all_eq_true] at hdst
      exact hdst o (List.mem_of_getElem? (by simpa using h2))
    · refine ih (listed.setIfInBounds i true) m' σ' _ w' (by simpa using hsz) ?_ ?_
      · have := count_set (l := listed.toList) (i := i) (by simp [hil, hlf])
        simp only [Array.toList_setIfInBounds]
        omega
      · have hD : (fun j => (listed.setIfInBounds i true).getD j false = true) = (fun j => listed.getD j false = true ∨ j = i) := by
          funext j
          apply propext
          by_cases hji : j = i
          · subst hji; simp [hil]
          · rw [getD_set_ne false (fun h => hji h.symm)]
            simp [hji]
        rw [hD]; exact I'

theorem draw_sound (hG : T.Good P) (hmix : P.follows .mixedOrders = true) (n : Nat)
    (ihc : ∀ m, m < n → ∀ f args h v h', runCall T m f args h = some (v, h') → CallSound P T f args h v h') : DrawSound P T n := by
  intro id ops e e' h h' σ a w x hr H F G hdst
  unfold runCode at hr
  simp only at hr
  cases hst : drawStatic ops.toList with
  | false => rw [hst] at hr; cases hr
  | true =>
    rw [hst] at hr
    simp only [cond_true] at hr
    split at hr
    · rename_i tr e1 h1 hp
      cases hc : nexts h.next tr && heapsOk T ops.toList (masks ops.toList []) (idx ops.toList 0) tr (actHeaps ops.toList tr) 0 with
      | false => rw [hc] at hr; cases hr
      | true =>
        rw [hc] at hr
        simp only [cond_true, Option.some.injEq, Prod.mk.injEq] at hr
        obtain ⟨rfl, rfl, rfl⟩ := hr
        simp only [Bool.and_eq_true] at hc
        obtain ⟨A, B, R⟩ := runParts_facts hG (all := ops.toList) (fun q x hx => by
            unfold drawPart at hx
            rw [List.mem_filter] at hx
            simp only [Bool.and_eq_true, Bool.not_eq_true'] at hx
            exact ⟨idx0_mem.mp hx.1, hx.2.1⟩) n _ 0 _ _ _ _ _ (fun x hx => by
            rw [List.mem_filter] at hx
            exact ⟨idx0_mem.mp hx.1, hx.2⟩) hp
        have C : Ctx P T n ops.toList e e1 h h1 tr A B := ⟨hG, static_of hst, R, hc.1, hc.2⟩
        refine wp_region_any hmix ?_
        have H0 : Step σ h w σ (A 0) { w with drawn := w.drawn + 1 } := by rw [R.first]; exact Step.drawn H rfl rfl rfl rfl
        have m0 : Made (A 0) (B 0) := R.made 0 (Nat.le_refl _) (Nat.zero_le _)
        have hno : ∀ i, ¬ ((Array.replicate ops.size false).getD i false = true) := by
          intro i
          by_cases hi : i < ops.size <;> simp [hi]
        refine draw_any C ihc rfl hdst ops.size _ 0 σ a _ (by simp) ?_ ⟨?_, Nat.zero_le _, ?_, H0.madeH m0, G, ?_, ?_, ?_, ⟨σ, _, H0.rel⟩, rfl, rfl⟩
        · have key : ∀ k : Nat, count (fun b : Bool => !b) (List.replicate k false) = k := by
            intro k
            induction k with
            | zero => rfl
            | succ k ih => simp only [List.replicate_succ, count, ih]; rfl
          simpa using key ops.size
        · intro i o _ hi; exact absurd hi (hno i)
        · intro q y _
          exact ⟨fun h => absurd h (hno _), fun h => by omega⟩
        · intro y _ d hy; exact absurd hy (hno _)
        · intro t u _ hu; exact F t u hu
        · intro y hy p h2 h3 h4 h5
          obtain ⟨qy, _, hqy, hyp, hym1, hym2⟩ := C.pure hy h2 (by unfold isEf; rw [h3]; rfl)
          obtain ⟨an2, vf2, _, hnew2, _⟩ := al_run (P := P) C.good h3 (hyp.on h4)
          have hnext : y.2.hA.next = y.2.hB.next + 1 := by rw [hnew2]; rfl
          have : qy = 0 := by omega
          subst this
          have g1 := hym1.grows.next
          have g2 := hym2.grows.next
          refine ⟨by omega, fun _ => ?_⟩
          cases hs : σ y.2.hB.next with
          | none => rfl
          | some z => have := (H0.rel.old _ z.1 z.2 hs).1; omega
    · cases hr

/-- what a call comes to by the machine, it comes to in the model -/
theorem am_sound (hG : T.Good P) (hmix : P.follows .mixedOrders = true) (hC : CodesOk T) (hS : SummsOk P T) (n : Nat) :
    ∀ f args h v h', runCall T n f args h = some (v, h') → CallSound P T f args h v h' :=
  call_sound hG hC hS (fun n ihc => draw_sound hG hmix n ihc) n
end
end Go.AM
