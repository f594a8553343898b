import Derived.Test.YtjiphiegpfleeaaGreatDoorRAmOp5
namespace Go.AM

section
variable {P : Program} {T : Tab} {σ : Emb} {h h' : AHeap} {w : World}

theorem snd_fieldAddr (hT : T.Ok P) (H : HRel σ h w) {t i off n : Nat} {a : Addr} {x' : Value} {fs : Array Field} (rx : VRel σ (.pointer (some a)) x') (hu : T.und t = some (.struct fs))
    (hp : fieldPlace T fs.toList i = some (off, n)) (hn : n ≠ 0) :
    OpRes P σ h w (do pure (.value (← Instr.fieldAt t x' i))) (.value (.pointer (some ⟨a.block, a.off + off, none⟩))) h := by
  unfold fieldPlace at hp
  split at hp
  · rename_i f hf
    split at hp
    · rename_i m hm
      injection hp with hp; injection hp with e1 e2; subst e1; subst e2
      cases rx with
      | ptr off' hb =>
        rename_i b β s
        have hf' : fs[i]? = some f := by rw [nth_eq] at hf; simpa using hf
        refine resPure H (v' := .pointer (some ⟨β, s + (off' + f.offset), none⟩)) ?_ (VRel.ptr _ hb)
        simp only [Instr.fieldAt, Instr.sureAddr, Sem.run_bind, run_und w (hT.und _ _ hu), Result.andThen_ok, hf', Sem.run_pure, Go.fieldPlace, run_size hT w hm, hn, if_false, add_none, Nat.add_assoc]
    · cases hp
  · cases hp

theorem snd_field (hT : T.Ok P) (H : HRel σ h w) {t i : Nat} {cs : Array Value} {x' v : Value} {fs : Array Field} {f : Field} (rx : VRel σ (.agg cs) x') (hu : T.und t = some (.struct fs))
    (hf : nth fs.toList i = some f) (hp : partA T f.type cs.toList f.offset = some v) :
    OpRes P σ h w (do pure (.value (← Instr.field t x' i))) (.value v) h := by
  cases rx with
  | agg hr =>
    obtain ⟨v', q1, q2⟩ := run_part hT w hr hp
    have hf' : fs[i]? = some f := by rw [nth_eq] at hf; simpa using hf
    refine resPure H ?_ q2
    simp only [Instr.field, Sem.run_bind, run_und w (hT.und _ _ hu), Result.andThen_ok, hf', asAgg, Sem.run_pure, q1]

theorem snd_indexArr (hT : T.Ok P) (H : HRel σ h w) {t n k el : Nat} {a : Addr} {x' i' : Value} {ik : IntKind} {i : Int} (rx : VRel σ (.pointer (some a)) x') (ri : VRel σ (.int ik i) i')
    (hu : T.und t = some (.array n el)) (hk : T.size el = some k) (h0 : 0 ≤ i) (h1 : i < n) :
    OpRes P σ h w (do pure (.value (← Instr.indexAt t x' i'))) (.value (.pointer (some ⟨a.block, a.off + i.toNat * k, none⟩))) h := by
  cases ri
  cases rx with
  | ptr off hb =>
    rename_i b β s
    refine resPure H (v' := .pointer (some ⟨β, s + (off + i.toNat * k), none⟩)) ?_ (VRel.ptr _ hb)
    have hc : 0 ≤ i ∧ i < (n : Int) := ⟨h0, h1⟩
    simp only [Instr.indexAt, asIntOf, Instr.sureAddr, Sem.run_bind, run_und w (hT.und _ _ hu), Result.andThen_ok, Sem.run_pure, hc, and_self, if_true, run_size hT w hk, add_none, Nat.add_assoc]

theorem snd_indexSlice (hT : T.Ok P) (H : HRel σ h w) {t n kap k el : Nat} {a : Addr} {x' i' : Value} {ik : IntKind} {i : Int} (rx : VRel σ (.slice (some a) n kap) x') (ri : VRel σ (.int ik i) i')
    (hu : T.und t = some (.slice el)) (hk : T.size el = some k) (h0 : 0 ≤ i) (h1 : i < n) :
    OpRes P σ h w (do pure (.value (← Instr.indexAt t x' i'))) (.value (.pointer (some ⟨a.block, a.off + i.toNat * k, none⟩))) h := by
  cases ri
  cases rx with
  | tight hb => omega
  | slice hb g1 g2 g3 =>
    rename_i b β s off o cap
    obtain rfl : o = s + off := by rcases g3 with g3 | g3 <;> omega
    refine resPure H (v' := .pointer (some ⟨β, s + (off + i.toNat * k), none⟩)) ?_ (VRel.ptr _ hb)
    have hc : 0 ≤ i ∧ i < (n : Int) := ⟨h0, h1⟩
    simp only [Instr.indexAt, asIntOf, Sem.run_bind, run_und w (hT.und _ _ hu), Result.andThen_ok, Sem.run_pure, hc, and_self, if_true, run_size hT w hk, add_none, Nat.add_assoc]

theorem snd_indexAgg (hT : T.Ok P) (H : HRel σ h w) {t n k el : Nat} {cs : Array Value} {x' i' v : Value} {ik : IntKind} {i : Int} (rx : VRel σ (.agg cs) x') (ri : VRel σ (.int ik i) i')
    (hu : T.und t = some (.array n el)) (hk : T.size el = some k) (h0 : 0 ≤ i) (h1 : i < n) (hp : partA T el cs.toList (i.toNat * k) = some v) :
    OpRes P σ h w (do pure (.value (← Instr.index t x' i'))) (.value v) h := by
  cases ri
  cases rx with
  | agg hr =>
    obtain ⟨v', q1, q2⟩ := run_part hT w hr hp
    refine resPure H ?_ q2
    have hc : 0 ≤ i ∧ i < (n : Int) := ⟨h0, h1⟩
    simp only [Instr.index, asIntOf, Sem.run_bind, run_und w (hT.und _ _ hu), Result.andThen_ok, Sem.run_pure, hc, and_self, if_true, run_size hT w hk, q1]

theorem snd_indexStr (hT : T.Ok P) (H : HRel σ h w) {t : Nat} {s : ByteArray} {x' i' : Value} {ik : IntKind} {i : Int} {b : UInt8} (rx : VRel σ (.string s) x') (ri : VRel σ (.int ik i) i')
    (hu : T.und t = some .string) (h0 : 0 ≤ i) (hb : nth (strBytes s) i.toNat = some b) :
    OpRes P σ h w (do pure (.value (← Instr.index t x' i'))) (.value (.int .u8 b.toNat)) h := by
  cases ri; cases rx
  refine resPure H ?_ (.int _ _)
  have hb' : s[i.toNat]? = some b := by
    rw [nth_eq] at hb
    simp only [strBytes, Array.getElem?_toList] at hb
    have hlt : i.toNat < s.data.size := by
      rcases Nat.lt_or_ge i.toNat s.data.size with h' | h'
      · exact h'
      · rw [Array.getElem?_eq_none h'] at hb; cases hb
    rw [Array.getElem?_eq_getElem hlt] at hb
    rw [getElem?_pos s i.toNat hlt]
    exact hb
  simp only [Instr.index, asIntOf, Sem.run_bind, run_und w (hT.und _ _ hu), Result.andThen_ok, Sem.run_pure, h0, if_true, hb']

theorem snd_extract (H : HRel σ h w) {vs : Array Value} {x' v : Value} {i : Nat} (rx : VRel σ (.tuple vs) x') (hv : nth vs.toList i = some v) :
    OpRes P σ h w (do pure (.value (← Instr.extract x' i))) (.value v) h := by
  cases rx with
  | tuple hr =>
    rename_i vs'
    rw [nth_eq] at hv
    obtain ⟨v', q1, q2⟩ := hr.get _ _ hv
    refine resPure H ?_ q2
    have : vs'[i]? = some v' := by simpa using q1
    simp only [Instr.extract, this, Sem.run_pure]

theorem snd_assert (hT : T.Ok P) (H : HRel σ h w) {t : Nat} {xt : TypeId} {d : TypeDesc} {v x' : Value} {ok : Bool} (rx : VRel σ (.iface t v) x') (hu : T.und t = some d) (hd : ∀ m, d ≠ .interface m) :
    OpRes P σ h w (do pure (.value (← Instr.typeAssert x' xt t ok))) (.value (bif ok then .tuple #[v, .bool true] else v)) h := by
  cases rx with
  | iface _ hv =>
    rename_i v'
    refine resPure H (v' := bif ok then .tuple #[v', .bool true] else v') ?_ ?_
    · simp only [Instr.typeAssert, Sem.run_bind, run_und w (hT.und _ _ hu), Result.andThen_ok]
      cases d <;> first
        | exact absurd rfl (hd _)
        | (simp only [if_true, Sem.run_pure]; cases ok <;> rfl)
    · cases ok
      · exact hv
      · exact .tuple (.cons hv (.cons (.bool _) .nil))

theorem snd_iface (hT : T.Ok P) (H : HRel σ h w) {t : Nat} {d : TypeDesc} {v v' : Value} (rv : VRel σ v v') (hu : T.und t = some d) (hd : ∀ m, d ≠ .interface m) :
    OpRes P σ h w (do pure (.value (← Instr.makeInterface t v'))) (.value (.iface t v)) h := by
  refine resPure H (v' := .iface t v') ?_ (.iface t rv)
  simp only [Instr.makeInterface, Sem.run_bind, run_und w (hT.und _ _ hu), Result.andThen_ok]
  cases d <;> first | exact absurd rfl (hd _) | rfl

theorem snd_makeMap (H : HRel σ h w) {t : Nat} :
    OpRes P σ h w (do pure (.value (← Instr.makeMap t none))) (.value (.map (some h.next))) (h.new (.map [])).2 := by
  have S := Step.new H (o := .map []) (x := .map #[] 0) ⟨#[], 0, rfl, .nil, ⟨List.Pairwise.nil, fun e he => by simp at he⟩⟩
  refine resStep S (v' := .map (some w.heap.size)) ?_ (.map (Emb.ext_same _ _ _ _))
  rfl

theorem wrap_small {n : Int} (h0 : 0 ≤ n) (h1 : n < 9223372036854775808) : IntKind.i64.wrap n = n := by
  unfold IntKind.wrap
  have e1 : (2 ^ IntKind.bits .i64 : Int) = 18446744073709551616 := by decide
  have e2 : (2 ^ (IntKind.bits .i64 - 1) : Int) = 9223372036854775808 := by decide
  rw [e1, e2]
  have : n % 18446744073709551616 = n := Int.emod_eq_of_lt h0 (by omega)
  simp only [this]
  rw [if_neg]
  simp; omega

theorem snd_makeSlice (hT : T.Ok P) (H : HRel σ h w) {t el : Nat} {lk ck : IntKind} {l c : Int} {l' c' : Value} {i : TypeInfo} {z : List Value} (rl : VRel σ (.int lk l) l') (rc : VRel σ (.int ck c) c')
    (hu : T.und t = some (.slice el)) (hi : T.info el = some i) (hz : zeroRow T el c.toNat = some z) (h0 : 0 ≤ l) (h1 : l ≤ c) (h2 : c.toNat * (i.bytes + 1) < roomy) :
    OpRes P σ h w (do pure (.value (← Instr.makeSlice t l' c'))) (.value (.slice (some ⟨h.next, 0, none⟩) l.toNat c.toNat)) (h.newRow i.size z).2 := by
  cases rl; cases rc
  have hroomy : roomy = 4294967296 := rfl
  have hk : T.size el = some i.size := by unfold Tab.size; rw [hi]
  obtain ⟨z0, k', hz0, hk', hzs, hzc, rfl⟩ := zeroRow_spec hT w hz
  rw [hk] at hk'; injection hk' with hk'; subst hk'
  obtain ⟨rz, _⟩ := run_zero hT w hz0
  let n := c.toNat * i.size
  let c0 : Array Value := if n = 0 then #[] else z0.cells
  let row : Array Value := (Array.range n).map (fun j => c0[j % c0.size]!)
  have hrow : row.toList = rept z0.cells.toList c.toNat := zeros_eq z0.cells i.size c.toNat hzs c0 rfl
  have hrs : row.size = n := by simp [row]
  have hrel : VRels σ (rept z0.cells.toList c.toNat) row.toList := by
    rw [hrow]
    have x := (VRel.const (σ := σ) hzc).cells.rept c.toNat
    have hv : vcells z0 = z0.cells.toList := by cases z0 <;> rfl
    rw [hv] at x; exact x
  have hlen := hrel.length
  simp only [Array.length_toList] at hlen
  rw [hroomy] at h2
  have hc1 : c.toNat < 4294967296 := Nat.lt_of_le_of_lt (Nat.le_mul_of_pos_right _ (Nat.succ_pos i.bytes)) h2
  have hbytes : c.toNat * i.bytes < 4294967296 := Nat.lt_of_le_of_lt (Nat.mul_le_mul_left _ (Nat.le_succ i.bytes)) h2
  have wl : IntKind.i64.wrap l = l := wrap_small h0 (by omega)
  have wc : IntKind.i64.wrap c = c := wrap_small (by omega) (by omega)
  have hbi : (i.bytes : Int) * c < 4294967296 := by
    have : (c.toNat : Int) = c := by omega
    rw [← this, Int.mul_comm, ← Int.natCast_mul]
    omega
  have hbl : (i.bytes : Int) * l ≤ (i.bytes : Int) * c := Int.mul_le_mul_of_nonneg_left h1 (by omega)
  refine resStep (newRow_step H el i.size (0, 0) (.inl (Nat.le_refl _)) (c := row) (by omega) (by rw [List.take_of_length_le (by simp; omega)]; exact hrel))
    (v' := .slice (some ⟨w.heap.size, 0, none⟩) l.toNat c.toNat) ?_ (newRow_val σ h w (by omega) (Nat.le_refl _) (.inr (by rw [hrs]; exact Nat.le_refl _)))
  unfold Instr.makeSlice
  simp only [Sem.run_bind, run_und w (hT.und _ _ hu), Result.andThen_ok, asInt, asIntOf, Sem.run_pure, run_info w (hT.info _ _ hi), wl, wc]
  have e48 : (2 : Int) ^ 48 = 281474976710656 := by decide
  have hcond : ((decide (c < 0) || decide ((i.bytes : Int) * c > 2 ^ 48)) || decide (l < 0) || decide (l > c)) = false := by
    rw [e48]
    simp only [Bool.or_eq_false_iff, decide_eq_false_iff_not]
    omega
  rw [hcond]
  simp only [Bool.false_eq_true, if_false, Sem.run_bind, run_askRoom, Result.andThen_ok, run_size hT w hk, Sem.run_ite]
  by_cases hn : c.toNat * i.size = 0
  · rw [if_pos hn]
    have hc : c0 = #[] := if_pos hn
    simp only [Sem.run_bind, Sem.run_pure, Result.andThen_ok, run_newRow]
    simp only [row, hc, n]
  · rw [if_neg hn]
    have hc : c0 = z0.cells := if_neg hn
    simp only [Sem.run_bind, rz, Sem.run_pure, Result.andThen_ok, run_newRow]
    simp only [row, hc, n]

/-! maps -/
theorem bytes_beq (a b : ByteArray) : (a == b) = (strBytes a == strBytes b) := by
  have e : (a == b) = (a.data == b.data) := by cases a; cases b; rfl
  rw [e, Bool.eq_iff_iff, beq_iff_eq, beq_iff_eq]
  constructor
  · intro h; unfold strBytes; rw [h]
  · intro h
    exact Array.ext' h
theorem strBytes_inj {a b : ByteArray} (h : strBytes a = strBytes b) : a = b := by
  apply ByteArray.ext
  exact Array.ext' h

theorem scalarEq_true {a b : Value} (e : scalarEq a b = some true) : a = b := by
  unfold scalarEq at e
  split at e
  · rename_i k x j y
    cases hk : decide (k = j) with
    | false => rw [hk] at e; cases e
    | true =>
      rw [hk] at e; simp only [cond_true, Option.some.injEq, beq_iff_eq] at e
      rw [of_decide_eq_true hk, e]
  · simp only [Option.some.injEq, beq_iff_eq] at e
    rw [strBytes_inj e]
  · simp only [Option.some.injEq, beq_iff_eq] at e; rw [e]
  · cases e

theorem keyFits_same {kt : Nat} {k a : Value} {d : TypeDesc} (hu : T.und kt = some d) (hf : keyFits T kt k = true) {b : Bool} (e : scalarEq k a = some b) : Instr.sameNow d k a = some b := by
  unfold keyFits at hf
  rw [hu] at hf
  cases d <;> cases k <;> first | (cases hf; done) | skip
  all_goals
    cases a <;> simp only [scalarEq] at e <;> first | (cases e; done) | skip
  · simp only [Instr.sameNow, e]
  · rename_i _ k1 n1 k2 n2
    cases hk : decide (k1 = k2) with
    | false => rw [hk] at e; cases e
    | true =>
      rw [hk] at e; simp only [cond_true] at e
      simp only [Instr.sameNow, of_decide_eq_true hk, if_true, e]
  · simp only [Instr.sameNow, bytes_beq, e]

theorem keyFits_rel {kt : Nat} {k k' : Value} (hf : keyFits T kt k = true) (rk : VRel σ k k') : k' = k := by
  unfold keyFits at hf
  split at hf
  · cases rk; rfl
  · cases rk; rfl
  · cases rk; rfl
  · cases hf

theorem keyFits_check (hT : T.Ok P) {kt : Nat} {k : Value} (hf : keyFits T kt k = true) (w : World) (em : Bool) : ∀ n, (Instr.checkKey em (n + 1) kt k).run P w = .ok () w := by
  intro n
  unfold keyFits at hf
  split at hf <;> first
    | (rename_i hu; simp only [Instr.checkKey, Sem.run_bind, run_und w (hT.und _ _ hu), Result.andThen_ok, Sem.run_pure]; done)
    | (rename_i hu _; simp only [Instr.checkKey, Sem.run_bind, run_und w (hT.und _ _ hu), Result.andThen_ok, Sem.run_pure]; done)
    | cases hf

theorem VRel.keyEq {a a' k : Value} {b : Bool} (ra : VRel σ a a') (e : scalarEq k a = some b) : a' = a := by
  unfold scalarEq at e
  split at e
  · cases ra; rfl
  · cases ra; rfl
  · cases ra; rfl
  · cases e

theorem find_rel {kt : Nat} {k : Value} {d : TypeDesc} (hu : T.und kt = some d) (hf : keyFits T kt k = true) : ∀ {es : List (Value × Value)} {ents : List MapEntry} {r : Option Value} (i : Nat), ERels σ es ents → findA k es = some r →
    (r = none ∧ Instr.findNow d k ents i = some none) ∨ ∃ v v' j, r = some v ∧ Instr.findNow d k ents i = some (some (j, v')) ∧ VRel σ v v'
  | _, _, r, i, .nil, e => by
    simp only [findA, Option.some.injEq] at e; subst e
    exact .inl ⟨rfl, rfl⟩
  | _, _, r, i, .cons hk hv t, e => by
    rename_i a v ent l l'
    simp only [findA] at e
    split at e
    · rename_i hs
      injection e with e; subst e
      have hkey : ent.key = a := VRel.keyEq hk hs
      refine .inr ⟨v, ent.val, i, rfl, ?_, hv⟩
      simp only [Instr.findNow, hkey, keyFits_same hu hf hs]
    · rename_i hs
      have hkey : ent.key = a := VRel.keyEq hk hs
      rcases find_rel hu hf (i + 1) t e with ⟨h1, h2⟩ | ⟨v1, v2, j, h1, h2, h3⟩
      · exact .inl ⟨h1, by simp only [Instr.findNow, hkey, keyFits_same hu hf hs]; exact h2⟩
      · exact .inr ⟨v1, v2, j, h1, by simp only [Instr.findNow, hkey, keyFits_same hu hf hs]; exact h2, h3⟩
    · cases e

theorem put_rel {kt : Nat} {k v v' : Value} {d : TypeDesc} (hu : T.und kt = some d) (hf : keyFits T kt k = true) (rk : VRel σ k k) (rv : VRel σ v v') (born : Nat) :
    ∀ {es es' : List (Value × Value)} {ents : List MapEntry} (i : Nat), ERels σ es ents → putA k v es = some es' →
    (Instr.findNow d k ents i = some none ∧ ERels σ es' (ents ++ [⟨k, v', born⟩])) ∨
    ∃ j x, Instr.findNow d k ents i = some (some (i + j, x)) ∧ (ents[j]?).map (·.key) = some k ∧ ERels σ es' (ents.modify j fun e => { e with key := k, val := v' })
  | _, _, _, i, .nil, e => by
    simp only [putA, Option.some.injEq] at e; subst e
    exact .inl ⟨rfl, .cons rk rv .nil⟩
  | _, _, _, i, .cons hk hv t, e => by
    rename_i es' a x ent l l'
    simp only [putA] at e
    split at e
    · rename_i hs
      injection e with e; subst e
      have hkey : ent.key = a := VRel.keyEq hk hs
      refine .inr ⟨0, ent.val, ?_, ?_, ?_⟩
      · simp only [Instr.findNow, hkey, keyFits_same hu hf hs]; rfl
      · simp only [List.getElem?_cons_zero, Option.map_some, hkey, scalarEq_true hs]
      · simp only [List.modify_zero_cons]
        exact .cons rk rv t
    · rename_i hs
      have hkey : ent.key = a := VRel.keyEq hk hs
      split at e
      · rename_i r hr
        injection e with e; subst e
        rcases put_rel hu hf rk rv born (i + 1) t hr with ⟨h1, h2⟩ | ⟨j, y, h1, h2, h3⟩
        · exact .inl ⟨by simp only [Instr.findNow, hkey, keyFits_same hu hf hs]; exact h1, .cons hk hv h2⟩
        · refine .inr ⟨j + 1, y, ?_, by simpa using h2, ?_⟩
          · simp only [Instr.findNow, hkey, keyFits_same hu hf hs]
            rw [h1]; congr 3; omega
          · simp only [List.modify_succ_cons]
            exact .cons hk hv h3
      · cases e
    · cases e

theorem del_rel {kt : Nat} {k : Value} {d : TypeDesc} (hu : T.und kt = some d) (hf : keyFits T kt k = true) :
    ∀ {es es' : List (Value × Value)} {ents : List MapEntry} (i : Nat), ERels σ es ents → delA k es = some es' →
    (Instr.findNow d k ents i = some none ∧ ERels σ es' ents) ∨ ∃ j x, Instr.findNow d k ents i = some (some (i + j, x)) ∧ ERels σ es' (ents.eraseIdx j)
  | _, _, _, i, .nil, e => by
    simp only [delA, Option.some.injEq] at e; subst e
    exact .inl ⟨rfl, .nil⟩
  | _, _, _, i, .cons hk hv t, e => by
    rename_i es' a x ent l l'
    simp only [delA] at e
    split at e
    · rename_i hs
      injection e with e; subst e
      have hkey : ent.key = a := VRel.keyEq hk hs
      refine .inr ⟨0, ent.val, ?_, by simpa using t⟩
      simp only [Instr.findNow, hkey, keyFits_same hu hf hs]; rfl
    · rename_i hs
      have hkey : ent.key = a := VRel.keyEq hk hs
      split at e
      · rename_i r hr
        injection e with e; subst e
        rcases del_rel hu hf (i + 1) t hr with ⟨h1, h2⟩ | ⟨j, y, h1, h2⟩
        · exact .inl ⟨by simp only [Instr.findNow, hkey, keyFits_same hu hf hs]; exact h1, .cons hk hv h2⟩
        · refine .inr ⟨j + 1, y, ?_, by simpa using .cons hk hv h2⟩
          simp only [Instr.findNow, hkey, keyFits_same hu hf hs]
          rw [h1]; congr 3; omega
      · cases e
    · cases e

theorem keyFits_und {kt : Nat} {k : Value} (hf : keyFits T kt k = true) : ∃ d, T.und kt = some d := by
  unfold keyFits at hf
  split at hf
  · rename_i hu; exact ⟨_, hu⟩
  · rename_i hu; exact ⟨_, hu⟩
  · rename_i hu; exact ⟨_, hu⟩
  · cases hf

theorem run_getMap (P : Program) {w : World} {ρ : Nat} {ents : Array MapEntry} {clock : Nat} (h : w.heap[ρ]? = some (.map ents clock)) : (getObj ρ).run P w = .ok (.map ents clock) w := by
  simp only [getObj, Sem.run, h]
theorem run_setMap (P : Program) {w : World} {ρ : Nat} {ents : Array MapEntry} {clock : Nat} (h : w.heap[ρ]? = some (.map ents clock)) (o : Obj) : (setObj ρ o).run P w = .ok () { w with heap := w.heap.setIfInBounds ρ o } := by
  simp only [setObj, Sem.run, h]

theorem mapOf_rel (H : HRel σ h w) {m m' : Value} {es : List (Value × Value)} (rm : VRel σ m m') (e : mapOf h m = some es) :
    (m' = .map none ∧ es = []) ∨ ∃ ρ ents clock, m' = .map (some ρ) ∧ w.heap[ρ]? = some (.map ents clock) ∧ ERels σ es ents.toList ∧ MapOk ents.toList clock := by
  unfold mapOf at e
  split at e
  · cases rm; injection e with e; exact .inl ⟨rfl, e.symm⟩
  · rename_i r
    cases rm with
    | map hr =>
      rename_i ρ
      split at e
      · rename_i es' ho
        injection e with e; subst e
        obtain ⟨_, ents, clock, h1, h2, h3⟩ := H.map _ _ _ _ hr ho
        exact .inr ⟨ρ, ents, clock, rfl, h1, h2, h3⟩
      · cases e
  · cases e

theorem snd_lookup (hT : T.Ok P) (H : HRel σ h w) {t : Nat} {m m' k k' v : Value} {ok : Bool} (rm : VRel σ m m') (rk : VRel σ k k') (e : lookupA T h t m k ok = some v) :
    OpRes P σ h w (do pure (.value (← Instr.lookup t m' k' ok))) (.value v) h := by
  unfold lookupA at e
  split at e
  · rename_i kt el es hu hes
    cases hf : keyFits T kt k with
    | false => rw [hf] at e; cases e
    | true =>
      rw [hf] at e; simp only [cond_true] at e
      have hkk := keyFits_rel hf rk; subst hkk
      obtain ⟨d, hd⟩ := keyFits_und hf
      -- what the look-up comes to, the entries at hand
      have key : ∀ (ents : Array MapEntry) (es : List (Value × Value)), ERels σ es ents.toList → (match findA k' es, T.zero el with
            | some (some v), _ => some (bif ok then Value.tuple #[v, .bool true] else v)
            | some none, some z => some (bif ok then .tuple #[z, .bool false] else z)
            | _, _ => none) = some v →
          ∃ v', VRel σ v v' ∧ (do
            Instr.checkKey ents.isEmpty 10000 kt k'
            let (v, ok') ← match ← Instr.findKey kt k' ents.toList with
              | some (_, v) => pure (v, true)
              | none => pure (← zeroValue el, false)
            pure (if ok then .tuple #[v, .bool ok'] else v) : Sem Value).run P w = .ok v' w := by
        intro ents es hr e
        have hck := keyFits_check hT hf w ents.isEmpty 9999
        split at e
        · rename_i v0 _ hfind
          rcases find_rel hd hf 0 hr hfind with ⟨h1, _⟩ | ⟨v1, v2, j, h1, h2, h3⟩
          · cases h1
          · injection h1 with h1; subst h1
            injection e with e; subst e
            refine ⟨bif ok then .tuple #[v2, .bool true] else v2, ?_, ?_⟩
            · cases ok
              · exact h3
              · exact .tuple (.cons h3 (.cons (.bool _) .nil))
            · simp only [Sem.run_bind, hck, Result.andThen_ok, Instr.findKey, run_und w (hT.und _ _ hd), h2, Sem.run_pure]
              cases ok <;> rfl
        · rename_i z hfind hz
          rcases find_rel hd hf 0 hr hfind with ⟨_, h2⟩ | ⟨v1, v2, j, h1, _⟩
          · obtain ⟨rz, cz⟩ := run_zero hT w hz
            injection e with e; subst e
            refine ⟨bif ok then .tuple #[z, .bool false] else z, ?_, ?_⟩
            · cases ok
              · exact .const cz
              · exact .tuple (.cons (.const cz) (.cons (.bool _) .nil))
            · simp only [Sem.run_bind, hck, Result.andThen_ok, Instr.findKey, run_und w (hT.und _ _ hd), h2, Sem.run_pure, rz]
              cases ok <;> rfl
          · cases h1
        · cases e
      rcases mapOf_rel H rm hes with ⟨rfl, rfl⟩ | ⟨ρ, ents, clock, rfl, hmap, hr, _⟩
      · obtain ⟨v', r1, r2⟩ := key #[] [] .nil e
        refine resPure H ?_ r1
        simp only [Instr.lookup, Sem.run_bind, run_und w (hT.und _ _ hu), Result.andThen_ok, Sem.run_pure] at r2 ⊢
        exact r2
      · obtain ⟨v', r1, r2⟩ := key ents es hr e
        refine resPure H ?_ r1
        simp only [Instr.lookup, Sem.run_bind, run_und w (hT.und _ _ hu), Result.andThen_ok, run_getMap P hmap, Sem.run_pure] at r2 ⊢
        exact r2
  · cases e

theorem MapOk.modify {ents : List MapEntry} {clock : Nat} (h : MapOk ents clock) (j : Nat) (k v : Value) : MapOk (ents.modify j fun e => { e with key := k, val := v }) clock := by
  have e : (ents.modify j fun e => { e with key := k, val := v }).map (·.born) = ents.map (·.born) := by
    apply List.ext_getElem?
    intro i
    rw [List.getElem?_map, List.getElem?_map, List.getElem?_modify]
    cases ents[i]? with
    | none => simp
    | some x => by_cases hj : j = i <;> simp [hj]
  refine ⟨by rw [e]; exact h.rise, fun x hx => ?_⟩
  have : x.born ∈ (ents.modify j fun e => { e with key := k, val := v }).map (·.born) := List.mem_map_of_mem hx
  rw [e] at this
  obtain ⟨y, hy, hyx⟩ := List.mem_map.1 this
  rw [← hyx]; exact h.below y hy

theorem MapOk.push {ents : List MapEntry} {clock : Nat} (h : MapOk ents clock) (k v : Value) : MapOk (ents ++ [⟨k, v, clock⟩]) (clock + 1) := by
  refine ⟨?_, fun x hx => ?_⟩
  · rw [List.map_append, List.pairwise_append]
    refine ⟨h.rise, by simp, fun a ha b hb => ?_⟩
    simp only [List.map_cons, List.map_nil, List.mem_singleton] at hb
    subst hb
    obtain ⟨y, hy, rfl⟩ := List.mem_map.1 ha
    exact h.below y hy
  · rcases List.mem_append.1 hx with hx | hx
    · have := h.below x hx; omega
    · simp only [List.mem_singleton] at hx; subst hx; simp

theorem MapOk.erase {ents : List MapEntry} {clock : Nat} (h : MapOk ents clock) (j : Nat) : MapOk (ents.eraseIdx j) clock :=
  ⟨List.Pairwise.sublist (List.Sublist.map _ (List.eraseIdx_sublist ..)) h.rise, fun x hx => h.below x (List.mem_of_mem_eraseIdx hx)⟩

theorem snd_update (hT : T.Ok P) (H : HRel σ h w) {t : Nat} {m m' k k' v v' : Value} (rm : VRel σ m m') (rk : VRel σ k k') (rv : VRel σ v v') (e : updateA T h t m k v = some h') :
    OpRes P σ h w (do Instr.mapUpdate t m' k' v'; pure .skip) .skip h' := by
  unfold updateA at e
  split at e
  · rename_i kt el r hu
    split at e
    · rename_i es ho
      cases hf : keyFits T kt k with
      | false => rw [hf] at e; cases e
      | true =>
        rw [hf] at e; simp only [cond_true] at e
        have hkk := keyFits_rel hf rk; subst hkk
        obtain ⟨d, hd⟩ := keyFits_und hf
        split at e
        · rename_i es' hput
          injection e with e; subst e
          cases rm with
          | map hr =>
            rename_i ρ
            obtain ⟨_, ents, clock, hmap, hrel, hok⟩ := H.map _ _ _ _ hr ho
            have hck := keyFits_check hT hf w false 9999
            rcases put_rel hd hf rk rv clock 0 hrel hput with ⟨h1, h2⟩ | ⟨j, x, h1, h2, h3⟩
            · have S := Step.setMap H hr ho (ents := ents.push ⟨k', v', clock⟩) (clock := clock + 1) (by simpa using h2) (by simpa using hok.push k' v')
                (w2 := { w with heap := w.heap.setIfInBounds ρ (.map (ents.push ⟨k', v', clock⟩) (clock + 1)) }) rfl rfl rfl rfl
              refine resUnit S ?_
              simp only [Instr.mapUpdate, Sem.run_bind, run_und w (hT.und _ _ hu), Result.andThen_ok, run_getMap P hmap, hck, Instr.findKey, run_und w (hT.und _ _ hd), h1, Sem.run_pure, run_setMap P hmap]
            · rw [Nat.zero_add] at h1
              have S := Step.setMap H hr ho (ents := ents.modify j fun e => { e with key := k', val := v' }) (clock := clock) (by simpa using h3) (by simpa using hok.modify j k' v')
                (w2 := { w with heap := w.heap.setIfInBounds ρ (.map (ents.modify j fun e => { e with key := k', val := v' }) clock) }) rfl rfl rfl rfl
              refine resUnit S ?_
              have hkey : ((ents[j]?).map (·.key)).getD k' = k' := by
                have : (ents[j]?).map (·.key) = some k' := by simpa using h2
                rw [this]; rfl
              have hstay : (Instr.keyThatStays k' k').run P w = .ok k' w := by
                have : Instr.sameBits 10000 k' k' = true := by
                  unfold keyFits at hf
                  split at hf
                  · simp only [Instr.sameBits, beq_self_eq_true, Bool.and_self]
                  · simp only [Instr.sameBits, bytes_beq, beq_self_eq_true]
                  · simp only [Instr.sameBits, beq_self_eq_true]
                  · cases hf
                simp only [Instr.keyThatStays, this, if_true, Sem.run_pure]
              simp only [Instr.mapUpdate, Sem.run_bind, run_und w (hT.und _ _ hu), Result.andThen_ok, run_getMap P hmap, hck, Instr.findKey, run_und w (hT.und _ _ hd), h1, Sem.run_pure, hkey, hstay, run_setMap P hmap]
        · cases e
    · cases e
  · cases e
end
end Go.AM
