import Derived.Test.YtjiphiegpfleeaaGreatDoorRS1Base
import Derived.Laws.StructEq
namespace Go.Proofs.S1
open Go Go.AM

theorem cells_ijk {a : Array Value} (h : cellsAre [.int .i64, .int .i64, .int .i64] a.toList = true) : ∃ x y z : Int, a = #[.int .i64 x, .int .i64 y, .int .i64 z] := by
  obtain ⟨l⟩ := a
  match l, h with
  | [], h => simp [cellsAre] at h
  | [_], h => simp [cellsAre] at h
  | [_, _], h => simp [cellsAre] at h
  | _ :: _ :: _ :: _ :: _, h => simp [cellsAre] at h
  | [u, v, t], h =>
    simp only [cellsAre, Bool.and_true, Bool.and_eq_true] at h
    obtain ⟨h1, h2, h3⟩ := h
    cases u <;> simp only [cellIs, Bool.false_eq_true] at h1
    cases v <;> simp only [cellIs, Bool.false_eq_true] at h2
    cases t <;> simp only [cellIs, Bool.false_eq_true] at h3
    simp only [decide_eq_true_eq] at h1 h2 h3
    subst h1; subst h2; subst h3
    exact ⟨_, _, _, rfl⟩
theorem cells_iss {a : Array Value} (h : cellsAre [.int .i64, .string, .string] a.toList = true) : ∃ (x : Int) (y z : ByteArray), a = #[.int .i64 x, .string y, .string z] := by
  obtain ⟨l⟩ := a
  match l, h with
  | [], h => simp [cellsAre] at h
  | [_], h => simp [cellsAre] at h
  | [_, _], h => simp [cellsAre] at h
  | _ :: _ :: _ :: _ :: _, h => simp [cellsAre] at h
  | [u, v, t], h =>
    simp only [cellsAre, Bool.and_true, Bool.and_eq_true] at h
    obtain ⟨h1, h2, h3⟩ := h
    cases u <;> simp only [cellIs, Bool.false_eq_true] at h1
    cases v <;> simp only [cellIs, Bool.false_eq_true] at h2
    cases t <;> simp only [cellIs, Bool.false_eq_true] at h3
    simp only [decide_eq_true_eq] at h1
    subst h1
    exact ⟨_, _, _, rfl⟩

theorem fields32 : (Tryz.prog.fieldsOf 32).toList.map (fun f => (f.name, f.type, f.offset)) = [("Kind", 3, 0), ("Key", 9, 1), ("Value", 9, 2)] := by kernel_rfl
theorem fields84 : (Tryz.prog.fieldsOf 84).toList.map (fun f => (f.name, f.type, f.offset)) = [("Seg", 2, 0), ("At", 3, 1), ("Seq", 2, 2)] := by kernel_rfl

theorem fields_three {fs : List Field} {n0 n1 n2 : String} {t0 t1 t2 o0 o1 o2 : Nat} (h : fs.map (fun f => (f.name, f.type, f.offset)) = [(n0, t0, o0), (n1, t1, o1), (n2, t2, o2)]) :
    ∃ a b c, fs = [a, b, c] ∧ a.name = n0 ∧ a.type = t0 ∧ a.offset = o0 ∧ b.name = n1 ∧ b.type = t1 ∧ b.offset = o1 ∧ c.name = n2 ∧ c.type = t2 ∧ c.offset = o2 := by
  match fs, h with
  | [a, b, c], h =>
    simp only [List.map_cons, List.map_nil, List.cons.injEq, Prod.mk.injEq, and_true] at h
    obtain ⟨⟨h1, h2, h3⟩, ⟨h4, h5, h6⟩, ⟨h7, h8, h9⟩⟩ := h
    exact ⟨a, b, c, rfl, h1, h2, h3, h4, h5, h6, h7, h8, h9⟩

theorem part_one (t : TypeId) (l : Array Value) (i : Nat) (v : Value) (hi : l[i]? = some v) (w : World) (ha : (isAgg t).run Tryz.prog w = .ok false w) : (part t l i).run Tryz.prog w = .ok v w := by
  unfold part
  simp [ha, hi]

theorem agg2 (w : World) : (isAgg 2).run Tryz.prog w = .ok false w := by kernel_rfl
theorem agg3 (w : World) : (isAgg 3).run Tryz.prog w = .ok false w := by kernel_rfl
theorem agg9 (w : World) : (isAgg 9).run Tryz.prog w = .ok false w := by kernel_rfl

theorem eqF_step {d : Nat} {xs ys : Array Value} {f : Field} {fs : List Field} {a b : Value} {r : Bool} {w : World} {n : String} {t o : Nat} (hn : f.name = n) (ht : f.type = t) (ho : f.offset = o) (hne : n ≠ "_")
    (ha : (isAgg t).run Tryz.prog w = .ok false w) (pa : xs[o]? = some a) (pb : ys[o]? = some b)
    (hr : (Op.equalIn d t a b).run Tryz.prog w = .ok r w) : (Op.eqFields d xs ys (f :: fs)).run Tryz.prog w = if r = true then (Op.eqFields d xs ys fs).run Tryz.prog w else .ok false w := by
  subst hn; subst ht; subst ho
  rw [Op.eqFields, if_pos hne]
  simp only [Sem.run_bind, part_one _ _ _ _ pa w ha, part_one _ _ _ _ pb w ha, hr, Result.andThen_ok]
  cases r <;> rfl

theorem flat84 : ∀ (w : World) (a b : Array Value) (r : Bool), cellsAre [.int .i64, .int .i64, .int .i64] a.toList = true → cellsAre [.int .i64, .int .i64, .int .i64] b.toList = true → listEq a.toList b.toList = some r →
    (Op.equal 84 (.agg a) (.agg b)).run Tryz.prog w = .ok r w := by
  intro w a b r ha hb hl
  obtain ⟨x, y, z, rfl⟩ := cells_ijk ha
  obtain ⟨x', y', z', rfl⟩ := cells_ijk hb
  obtain ⟨f0, f1, f2, hf, n0, t0, o0, n1, t1, o1, n2, t2, o2⟩ := fields_three fields84
  show (Op.equalIn 10000 84 _ _).run Tryz.prog w = _
  rw [run_equalIn_agg w 9999 84 _ _ (by kernel_rfl) (by kernel_rfl), hf]
  rw [eqF_step n0 t0 o0 (by decide) (agg2 w) rfl rfl (run_equalIn_int w 9998 2 .i64 .i64 _ _ Tryz.underlying2)]
  rw [eqF_step n1 t1 o1 (by decide) (agg3 w) rfl rfl (run_equalIn_int w 9998 3 .i64 .i64 _ _ Tryz.underlying3)]
  rw [eqF_step n2 t2 o2 (by decide) (agg2 w) rfl rfl (run_equalIn_int w 9998 2 .i64 .i64 _ _ Tryz.underlying2)]
  simp only [listEq, scalarEq, decide_true, cond_true] at hl
  simp only [Op.eqFields, Sem.run_pure]
  cases h1 : (x == x') <;> cases h2 : (y == y') <;> cases h3 : (z == z') <;> simp [h1, h2, h3] at hl ⊢ <;> exact hl
theorem flat32 : ∀ (w : World) (a b : Array Value) (r : Bool), cellsAre [.int .i64, .string, .string] a.toList = true → cellsAre [.int .i64, .string, .string] b.toList = true → listEq a.toList b.toList = some r →
    (Op.equal 32 (.agg a) (.agg b)).run Tryz.prog w = .ok r w := by
  intro w a b r ha hb hl
  obtain ⟨x, y, z, rfl⟩ := cells_iss ha
  obtain ⟨x', y', z', rfl⟩ := cells_iss hb
  obtain ⟨f0, f1, f2, hf, n0, t0, o0, n1, t1, o1, n2, t2, o2⟩ := fields_three fields32
  show (Op.equalIn 10000 32 _ _).run Tryz.prog w = _
  rw [run_equalIn_agg w 9999 32 _ _ (by kernel_rfl) (by kernel_rfl), hf]
  rw [eqF_step n0 t0 o0 (by decide) (agg3 w) rfl rfl (run_equalIn_int w 9998 3 .i64 .i64 _ _ Tryz.underlying3)]
  rw [eqF_step n1 t1 o1 (by decide) (agg9 w) rfl rfl (run_equalIn_string w 9998 9 _ _ Tryz.underlying9)]
  rw [eqF_step n2 t2 o2 (by decide) (agg9 w) rfl rfl (run_equalIn_string w 9998 9 _ _ Tryz.underlying9)]
  simp only [listEq, scalarEq, decide_true, cond_true] at hl
  unfold strBytes at hl
  simp only [ByteArray.toList_eq]
  simp only [Op.eqFields, Sem.run_pure]
  cases h1 : (x == x') <;> cases h2 : (y.data.toList == y'.data.toList) <;> cases h3 : (z.data.toList == z'.data.toList) <;> simp [h1, h2, h3] at hl ⊢ <;> exact hl
theorem flatOk {T : Tab} (hT : T.flat = flats) : FlatOk Tryz.prog T := by
  intro t ds h
  rw [hT] at h
  unfold flats at h
  cases h1 : Nat.beq t 32 with
  | true =>
    rw [h1] at h
    obtain rfl := Nat.eq_of_beq_eq_true h1
    simp only [cond_true, Option.some.injEq] at h; subst h
    exact ⟨by kernel_rfl, flat32⟩
  | false =>
    rw [h1] at h
    cases h2 : Nat.beq t 84 with
    | true =>
      rw [h2] at h
      obtain rfl := Nat.eq_of_beq_eq_true h2
      simp only [cond_true, cond_false, Option.some.injEq] at h; subst h
      exact ⟨by kernel_rfl, flat84⟩
    | false => rw [h2] at h; cases h
#print axioms flatOk
end Go.Proofs.S1
