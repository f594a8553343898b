import Derived.Test.YtjiphiegpfleeaaGreatDoorRS1Base
import Derived.Test.YtjiphiegpfleeaaGreatDoorRAmWp
namespace Go.Proofs.S1
open Go Go.AM
theorem cund53 : TB.und 53 = some (.slice 5) := by kernel_rfl
theorem csize5 : TB.size 5 = some 1 := by kernel_rfl
theorem cagg5 : TB.isAgg 5 = some false := by kernel_rfl
theorem cfunc181 : TB.func 180 = some Tryz.f180 := by kernel_rfl
theorem csumm181 : TB.summ 180 = none := by kernel_rfl
def bodyOf (f : Func) : Code := match f.body with | some c => c | none => .skip
def seqL : Code → Code | .seq a _ => a | c => c
def seqR : Code → Code | .seq _ b => b | c => c
def blk : Code → Code | .block _ b => b | c => c
def lop : Code → Code | .loop b => b | c => c
def regOps : Code → Array Oper | .region _ ops _ => ops | _ => #[]
noncomputable def B181 : Code := bodyOf Tryz.f180
noncomputable def OB : Code := lop (blk (seqR (seqL (seqR (seqR B181)))))
noncomputable def OB1 : Code := blk (seqL (seqR (seqR OB)))
noncomputable def IB : Code := lop (blk (seqR (seqR (seqR OB1))))
noncomputable def opsR4 : List Oper := (regOps (seqL OB1)).toList
theorem cbody181 : Tryz.f180.body = some B181 := by kernel_rfl
theorem cres181 : Tryz.f180.results.toList = [.tmp 2] := by kernel_rfl

def bitsI (op : BinOp) (a b : Int) : Int := match Op.intBits op .u32 a b with | .pure (.int _ v) => v | _ => 0
def stepI (a : Int) : Int := bitsI .xor (a.fdiv 2) (bitsI .and 3988292384 (IntKind.u32.wrap (-(bitsI .and a 1))))

theorem IB_eq (a i n oi : Int) (p : Value) (h : AHeap) (P : Exit' → Option Value → Option Value → Option Value → Option Value → Option Value → AHeap → Prop) :
    wpCode TB IB (envOf [(3, .int .u32 a), (16, .int .i64 i), (6, p), (7, .int .i64 n), (8, .int .i64 oi)]) h (fun x f h => P x (f 3) (f 16) (f 6) (f 7) (f 8) h) =
      cond (decide (i < 8)) (P .normal (some (.int .u32 (stepI a))) (some (.int .i64 (IntKind.i64.wrap (i + 1)))) (some p) (some (.int .i64 n)) (some (.int .i64 oi)) h)
        (P (.exit 2) (some (.int .u32 a)) (some (.int .i64 i)) (some p) (some (.int .i64 n)) (some (.int .i64 oi)) h) := by kernel_rfl
theorem loop_shape : seqR (seqR (seqR OB1)) = .block 2 (.loop IB) := by kernel_rfl

def iterI : Nat → Int → Int
  | 0, a => a
  | k + 1, a => iterI k (stepI a)

theorem i64_small (k : Int) (h0 : 0 ≤ k) (h1 : k < 9223372036854775808) : IntKind.i64.wrap k = k := by
  unfold IntKind.wrap
  have e : (2 : Int) ^ IntKind.i64.bits = 18446744073709551616 := by decide
  have e2 : (2 : Int) ^ (IntKind.i64.bits - 1) = 9223372036854775808 := by decide
  rw [e, e2]
  have : k % 18446744073709551616 = k := Int.emod_eq_of_lt h0 (by omega)
  rw [this]
  simp only [ge_iff_le]
  rw [if_neg]
  simp only [Bool.and_eq_true, decide_eq_true_eq, not_and]
  intro _; omega

theorem IB_use (a i n oi : Int) (p : Value) (h : AHeap) (K : Exit' → Env → AHeap → Prop)
    (h1 : i < 8 → ∀ f' : Env, f' 3 = some (.int .u32 (stepI a)) → f' 16 = some (.int .i64 (IntKind.i64.wrap (i + 1))) → f' 6 = some p → f' 7 = some (.int .i64 n) → f' 8 = some (.int .i64 oi) → K .normal f' h)
    (h2 : ¬ i < 8 → ∀ f' : Env, f' 3 = some (.int .u32 a) → f' 16 = some (.int .i64 i) → f' 6 = some p → f' 7 = some (.int .i64 n) → f' 8 = some (.int .i64 oi) → K (.exit 2) f' h) :
    wpCode TB IB (envOf [(3, .int .u32 a), (16, .int .i64 i), (6, p), (7, .int .i64 n), (8, .int .i64 oi)]) h K := by
  refine wpCode_mono (fun x f h hx => hx f rfl rfl rfl rfl rfl) ((IB_eq a i n oi p h (fun x v3 v16 v6 v7 v8 h => ∀ f' : Env, f' 3 = v3 → f' 16 = v16 → f' 6 = v6 → f' 7 = v7 → f' 8 = v8 → K x f' h)).mpr ?_)
  by_cases hlt : i < 8
  · rw [decide_eq_true hlt]; exact h1 hlt
  · rw [decide_eq_false hlt]; exact h2 hlt

/-- the inner loop: eight steps -/
theorem inner (a0 n oi : Int) (p : Value) (f : Env) (h : AHeap) (K : Exit' → Env → AHeap → Prop) (h3 : f 3 = some (.int .u32 a0)) (h16 : f 16 = some (.int .i64 0)) (h6 : f 6 = some p) (h7 : f 7 = some (.int .i64 n)) (h8 : f 8 = some (.int .i64 oi))
    (hK : ∀ f', f' 3 = some (.int .u32 (iterI 8 a0)) → f' 6 = some p → f' 7 = some (.int .i64 n) → f' 8 = some (.int .i64 oi) → K .normal f' h) :
    wpCode TB (.block 2 (.loop IB)) f h K := by
  unfold wpCode
  refine loop_inv (fun s : Int × Nat => [(3, .int .u32 s.1), (16, .int .i64 (s.2 : Int)), (6, p), (7, .int .i64 n), (8, .int .i64 oi)]) (fun s h' => s.2 ≤ 8 ∧ iterI (8 - s.2) s.1 = iterI 8 a0 ∧ h' = h) (fun s => 8 - s.2) (a0, 0) ⟨h3, h16, h6, h7, h8, trivial⟩ ⟨by omega, rfl, rfl⟩ ?_
  rintro ⟨a, i⟩ h' ⟨hi, hit, rfl⟩
  simp only at hi hit
  refine IB_use a (i : Int) n oi p h' _ (fun hlt f' q3 q16 q6 q7 q8 => ?_) (fun hlt f' q3 q16 q6 q7 q8 => ?_)
  · refine ⟨(stepI a, i + 1), ⟨q3, ?_, q6, q7, q8, trivial⟩, ⟨by simp only; omega, ?_, rfl⟩, by simp only; omega⟩
    · rw [q16, i64_small _ (by omega) (by omega)]; rfl
    · rw [← hit]
      have : 8 - i = (8 - (i + 1)) + 1 := by omega
      simp only [this, iterI]
  · have : i = 8 := by omega
    subst this
    show cond (Nat.beq 2 2) (K .normal f' h') _
    refine hK f' ?_ q6 q7 q8
    rw [q3, ← hit]
    rfl
theorem OB_shape : OB = .seq (seqL OB) (.seq (.cond (.tmp 9) .skip (.exit 0)) (.seq (.block 1 (.seq (seqL OB1) (.seq (seqL (seqR OB1)) (.seq (seqL (seqR (seqR OB1))) (.block 2 (.loop IB)))))) (seqR (seqR (seqR OB))))) := by kernel_rfl
theorem B_shape : B181 = .seq (seqL B181) (.seq (seqL (seqR B181)) (.seq (.seq (seqL (seqL (seqR (seqR B181)))) (.block 0 (.loop OB))) (seqR (seqR (seqR B181))))) := by kernel_rfl
theorem R4_shape : seqL OB1 = .region 4 (regOps (seqL OB1)) false := by kernel_rfl
theorem R4_dst : opsR4.map (·.dst) = [some 10, some 11, some 5] := by kernel_rfl
theorem R4_grd : opsR4.map (·.guard) = [none, none, none] := by kernel_rfl
theorem R4_op : opsR4.map (·.op) = [.indexAddr 53 (.tmp 6) (.tmp 8), .load 5 (.tmp 10), .assign (.tmp 11)] := by kernel_rfl
/-- the head of the outer loop -/
theorem R3_eq (a n i : Int) (p : Value) (h : AHeap) (P : Option Value → Option Value → Option Value → Option Value → Option Value → AHeap → Prop) :
    wpCode TB (seqL OB) (envOf [(3, .int .u32 a), (6, p), (7, .int .i64 n), (8, .int .i64 i)]) h (fun _ f h => P (f 9) (f 3) (f 6) (f 7) (f 8) h) = P (some (.bool (decide (i < n)))) (some (.int .u32 a)) (some p) (some (.int .i64 n)) (some (.int .i64 i)) h := by kernel_rfl
theorem R5_eq (a n i c : Int) (p : Value) (h : AHeap) (P : Option Value → Option Value → Option Value → Option Value → Option Value → AHeap → Prop) :
    wpCode TB (.seq (seqL (seqR OB1)) (seqL (seqR (seqR OB1)))) (envOf [(3, .int .u32 a), (5, .int .u8 c), (6, p), (7, .int .i64 n), (8, .int .i64 i)]) h (fun _ f h => P (f 3) (f 16) (f 6) (f 7) (f 8) h) =
      P (some (.int .u32 (bitsI .xor a (IntKind.u32.wrap c)))) (some (.int .i64 0)) (some p) (some (.int .i64 n)) (some (.int .i64 i)) h := by kernel_rfl
theorem R10_eq (a n i : Int) (p : Value) (h : AHeap) (P : Option Value → Option Value → Option Value → Option Value → AHeap → Prop) :
    wpCode TB (seqR (seqR (seqR OB))) (envOf [(3, .int .u32 a), (6, p), (7, .int .i64 n), (8, .int .i64 i)]) h (fun _ f h => P (f 3) (f 6) (f 7) (f 8) h) =
      P (some (.int .u32 a)) (some p) (some (.int .i64 n)) (some (.int .i64 (IntKind.i64.wrap (i + 1)))) h := by kernel_rfl
theorem pre_eq (n kap : Nat) (ad : Addr) (h : AHeap) (P : Option Value → Option Value → Option Value → Option Value → AHeap → Prop) :
    wpCode TB (.seq (seqL B181) (.seq (seqL (seqR B181)) (seqL (seqL (seqR (seqR B181)))))) (argEnv [.slice (some ad) n kap]) h (fun _ f h => P (f 3) (f 6) (f 7) (f 8) h) =
      P (some (.int .u32 4294967295)) (some (.slice (some ad) n kap)) (some (.int .i64 n)) (some (.int .i64 0)) h := by kernel_rfl
theorem post_eq (a : Int) (h : AHeap) (P : Option Value → AHeap → Prop) :
    wpCode TB (seqR (seqR (seqR B181))) (envOf [(3, .int .u32 a)]) h (fun _ f h => P (f 2) h) = P (some (.int .u32 (bitsI .xor 4294967295 a))) h := by kernel_rfl

def Has (g : Env) (t : Nat) (v : Option Value) : Prop := ∀ u, v = some u → g t = some u
theorem Has.of {f g : Env} (H : EnvLe f g) (t : Nat) : Has g t (f t) := fun u h => H t u h
theorem seg_of {c : Code} {L : List (Nat × Value)} {f : Env} {h : AHeap} {K : Exit' → Env → AHeap → Prop} (hS : Slots f L) (hw : wpCode TB c (envOf L) h fun x f' h' => ∀ g, EnvLe f' g → K x g h') : wpCode TB c f h K :=
  wpCode_env (fun _ _ g' _ H hx => hx g' H) hS.le hw

theorem R3_use (a n i : Int) (p : Value) (h : AHeap) {f : Env} {K : Exit' → Env → AHeap → Prop} (hS : Slots f [(3, .int .u32 a), (6, p), (7, .int .i64 n), (8, .int .i64 i)])
    (hK : ∀ g, g 9 = some (.bool (decide (i < n))) → Slots g [(3, .int .u32 a), (6, p), (7, .int .i64 n), (8, .int .i64 i)] → K .normal g h) : wpCode TB (seqL OB) f h K := by
  have hreg : seqL OB = .region 3 (regOps (seqL OB)) false := by kernel_rfl
  refine seg_of hS ?_
  have := (R3_eq a n i p h (fun v9 v3 v6 v7 v8 h => ∀ g, Has g 9 v9 → Has g 3 v3 → Has g 6 v6 → Has g 7 v7 → Has g 8 v8 → K .normal g h)).mpr
    (fun g h9 h3 h6 h7 h8 => hK g (h9 _ rfl) ⟨h3 _ rfl, h6 _ rfl, h7 _ rfl, h8 _ rfl, trivial⟩)
  rw [hreg] at this ⊢
  exact wpOps_mono (fun f' h' hx g H => hx g (.of H 9) (.of H 3) (.of H 6) (.of H 7) (.of H 8)) this
theorem R10_use (a n i : Int) (p : Value) (h : AHeap) {f : Env} {K : Exit' → Env → AHeap → Prop} (hS : Slots f [(3, .int .u32 a), (6, p), (7, .int .i64 n), (8, .int .i64 i)])
    (hK : ∀ g, Slots g [(3, .int .u32 a), (6, p), (7, .int .i64 n), (8, .int .i64 (IntKind.i64.wrap (i + 1)))] → K .normal g h) : wpCode TB (seqR (seqR (seqR OB))) f h K := by
  have hreg : seqR (seqR (seqR OB)) = .region 10 (regOps (seqR (seqR (seqR OB)))) false := by kernel_rfl
  refine seg_of hS ?_
  have := (R10_eq a n i p h (fun v3 v6 v7 v8 h => ∀ g, Has g 3 v3 → Has g 6 v6 → Has g 7 v7 → Has g 8 v8 → K .normal g h)).mpr
    (fun g h3 h6 h7 h8 => hK g ⟨h3 _ rfl, h6 _ rfl, h7 _ rfl, h8 _ rfl, trivial⟩)
  rw [hreg] at this ⊢
  exact wpOps_mono (fun f' h' hx g H => hx g (.of H 3) (.of H 6) (.of H 7) (.of H 8)) this
set_option maxRecDepth 100000 in
theorem R5_use (a n i c : Int) (p : Value) (h : AHeap) {f : Env} {K : Env → AHeap → Prop} (hS : Slots f [(3, .int .u32 a), (5, .int .u8 c), (6, p), (7, .int .i64 n), (8, .int .i64 i)])
    (hK : ∀ g, Slots g [(3, .int .u32 (bitsI .xor a (IntKind.u32.wrap c))), (16, .int .i64 0), (6, p), (7, .int .i64 n), (8, .int .i64 i)] → K g h) :
    wpCode TB (seqL (seqR OB1)) f h fun x f h => match x with
      | .normal => wpCode TB (seqL (seqR (seqR OB1))) f h fun x f h => match x with | .normal => K f h | _ => False
      | _ => False := by
  have hreg : seqL (seqR OB1) = .region 5 (regOps (seqL (seqR OB1))) false := by kernel_rfl
  have hreg2 : seqL (seqR (seqR OB1)) = .region 6 (regOps (seqL (seqR (seqR OB1)))) false := by kernel_rfl
  have := (R5_eq a n i c p h (fun v3 v16 v6 v7 v8 h => ∀ g, Has g 3 v3 → Has g 16 v16 → Has g 6 v6 → Has g 7 v7 → Has g 8 v8 → K g h)).mpr
    (fun g h3 h16 h6 h7 h8 => hK g ⟨h3 _ rfl, h16 _ rfl, h6 _ rfl, h7 _ rfl, h8 _ rfl, trivial⟩)
  unfold wpCode at this
  rw [hreg] at this ⊢
  have this3 : AM.wpOps TB (regOps (seqL (seqR OB1))).toList (regOps (seqL (seqR OB1))).toList (envOf [(3, .int .u32 a), (5, .int .u8 c), (6, p), (7, .int .i64 n), (8, .int .i64 i)]) h
    (fun f h => wpCode TB (seqL (seqR (seqR OB1))) f h (fun _ f h => ∀ g, Has g 3 (f 3) → Has g 16 (f 16) → Has g 6 (f 6) → Has g 7 (f 7) → Has g 8 (f 8) → K g h)) := this
  show AM.wpOps TB _ _ f h (fun f h => wpCode TB (seqL (seqR (seqR OB1))) f h fun x f h => match x with | .normal => K f h | _ => False)
  refine wpOps_env (fun f' g' h' H hx => ?_) hS.le this3
  rw [hreg2] at hx ⊢
  exact wpOps_env (fun f2 g2 h2 H2 hx2 => hx2 g2 (.of H2 3) (.of H2 16) (.of H2 6) (.of H2 7) (.of H2 8)) H hx

theorem u32_small (k : Nat) (h : k < 4294967296) : IntKind.u32.wrap (k : Int) = (k : Int) := by
  unfold IntKind.wrap
  have e : (2 : Int) ^ IntKind.u32.bits = 4294967296 := by decide
  have e3 : IntKind.u32.signed = false := by decide
  rw [e, e3]
  simp only [Bool.false_and, Bool.false_eq_true, if_false]
  omega
theorem bits_and (a b : Nat) (ha : a < 4294967296) (hb : b < 4294967296) : bitsI .and (a : Int) (b : Int) = ((a &&& b : Nat) : Int) := by
  show IntKind.u32.wrap (((BitVec.ofInt 32 (a : Int)) &&& (BitVec.ofInt 32 (b : Int))).toNat : Int) = _
  rw [BitVec.toNat_and, BitVec.ofInt_natCast, BitVec.ofInt_natCast, BitVec.toNat_ofNat, BitVec.toNat_ofNat, Nat.mod_eq_of_lt ha, Nat.mod_eq_of_lt hb]
  exact u32_small _ (Nat.lt_of_le_of_lt Nat.and_le_left ha)
theorem bits_xor (a b : Nat) (ha : a < 4294967296) (hb : b < 4294967296) : bitsI .xor (a : Int) (b : Int) = ((a ^^^ b : Nat) : Int) := by
  show IntKind.u32.wrap (((BitVec.ofInt 32 (a : Int)) ^^^ (BitVec.ofInt 32 (b : Int))).toNat : Int) = _
  rw [BitVec.toNat_xor, BitVec.ofInt_natCast, BitVec.ofInt_natCast, BitVec.toNat_ofNat, BitVec.toNat_ofNat, Nat.mod_eq_of_lt ha, Nat.mod_eq_of_lt hb]
  exact u32_small _ (Nat.xor_lt_two_pow (n := 32) ha hb)
theorem crc_nat (a : Nat) (ha : a < 4294967296) : stepI (a : Int) = (crcStep a : Nat) ∧ crcStep a < 4294967296 := by
  have h1 : bitsI .and (a : Int) 1 = ((a % 2 : Nat) : Int) := by
    have := bits_and a 1 ha (by omega)
    rw [Nat.and_one_is_mod] at this
    exact this
  have h2 : (a : Int).fdiv 2 = ((a / 2 : Nat) : Int) := by
    rw [Int.fdiv_eq_ediv_of_nonneg _ (by omega)]; rfl
  have h3 : a / 2 < 4294967296 := by omega
  unfold stepI crcStep
  rw [h1, h2]
  have e0 : Nat.shiftRight a 1 = a / 2 := rfl
  have e1 : Nat.mod a 2 = a % 2 := rfl
  rw [e0, e1]
  have h4 : a % 2 = 0 ∨ a % 2 = 1 := by omega
  rcases h4 with h4 | h4
  · rw [h4]
    have e2 : IntKind.u32.wrap (-((0 : Nat) : Int)) = ((0 : Nat) : Int) := by decide
    have e3 : bitsI .and 3988292384 ((0 : Nat) : Int) = ((0 : Nat) : Int) := bits_and 3988292384 0 (by omega) (by omega)
    rw [e2, e3, bits_xor _ _ h3 (by omega)]
    exact ⟨rfl, Nat.xor_lt_two_pow (n := 32) h3 (by decide)⟩
  · rw [h4]
    have e2 : IntKind.u32.wrap (-((1 : Nat) : Int)) = ((4294967295 : Nat) : Int) := by decide
    have e3 : bitsI .and 3988292384 ((4294967295 : Nat) : Int) = ((3988292384 : Nat) : Int) := bits_and 3988292384 4294967295 (by omega) (by omega)
    rw [e2, e3, bits_xor _ _ h3 (by omega)]
    exact ⟨rfl, Nat.xor_lt_two_pow (n := 32) h3 (by decide)⟩
theorem iter8 (a : Nat) (ha : a < 4294967296) : iterI 8 (a : Int) = (crc8 a : Nat) ∧ crc8 a < 4294967296 := by
  have s1 := crc_nat a ha
  have s2 := crc_nat _ s1.2
  have s3 := crc_nat _ s2.2
  have s4 := crc_nat _ s3.2
  have s5 := crc_nat _ s4.2
  have s6 := crc_nat _ s5.2
  have s7 := crc_nat _ s6.2
  have s8 := crc_nat _ s7.2
  unfold crc8
  simp only [iterI, s1.1, s2.1, s3.1, s4.1, s5.1, s6.1, s7.1, s8.1]
  exact ⟨trivial, s8.2⟩

/-- bytes in cells -/
def byteCells : List Value → Bool
  | [] => true
  | .int .u8 n :: l => decide (0 ≤ n) && decide (n < 256) && byteCells l
  | _ => false
theorem byteCells_get : ∀ {l : List Value} {i : Nat} {v : Value}, byteCells l = true → l[i]? = some v → ∃ c : Nat, v = .int .u8 (c : Int) ∧ c < 256
  | [], i, v, _, h => by simp at h
  | x :: l, i, v, hb, h => by
    unfold byteCells at hb
    split at hb
    · rename_i heq; cases heq
    · rename_i n l' heq
      injection heq with q1 q2
      subst q1; subst q2
      simp only [Bool.and_eq_true, decide_eq_true_eq] at hb
      cases i with
      | zero =>
        simp at h; subst h
        exact ⟨n.toNat, by congr 1; omega, by omega⟩
      | succ i => exact byteCells_get hb.2 (by simpa using h)
    · cases hb
theorem crcBytes_cons (n : Int) (l : List Value) (x : Nat) : crcBytes (.int .u8 n :: l) x = crcBytes l (crc8 (Nat.xor x n.toNat)) := by rw [crcBytes]
theorem crcBytes_append : ∀ (l : List Value) (c x y : Nat), byteCells l = true → crcBytes l x = some y → crcBytes (l ++ [.int .u8 (c : Int)]) x = some (crc8 (Nat.xor y c))
  | [], c, x, y, _, h => by
    simp only [crcBytes, Option.some.injEq] at h; subst h
    rw [List.nil_append, crcBytes_cons, Int.toNat_natCast, crcBytes]
  | v :: l, c, x, y, hb, h => by
    unfold byteCells at hb
    split at hb
    · rename_i heq; cases heq
    · rename_i n l' heq
      injection heq with q1 q2
      subst q1; subst q2
      simp only [Bool.and_eq_true] at hb
      rw [crcBytes_cons] at h
      rw [List.cons_append, crcBytes_cons]
      exact crcBytes_append l c _ y hb.2 h
    · cases hb
theorem crc8_lt (a : Nat) (ha : a < 4294967296) : crc8 a < 4294967296 := (iter8 a ha).2
theorem crcBytes_take : ∀ (l : List Value) (x : Nat), byteCells l = true → x < 4294967296 → ∀ k, ∃ y, crcBytes (l.take k) x = some y ∧ y < 4294967296
  | l, x, hb, hx, 0 => ⟨x, by simp [crcBytes], hx⟩
  | [], x, hb, hx, k + 1 => ⟨x, by simp [crcBytes], hx⟩
  | v :: l, x, hb, hx, k + 1 => by
    unfold byteCells at hb
    split at hb
    · rename_i heq; cases heq
    · rename_i n l' heq
      injection heq with q1 q2
      subst q1; subst q2
      simp only [Bool.and_eq_true, decide_eq_true_eq] at hb
      have hn : n.toNat < 4294967296 := by omega
      obtain ⟨y, h1, h2⟩ := crcBytes_take l (crc8 (Nat.xor x n.toNat)) hb.2 (crc8_lt _ (Nat.xor_lt_two_pow (n := 32) hx hn)) k
      refine ⟨y, ?_, h2⟩
      rw [List.take_succ_cons, crcBytes_cons]
      exact h1
    · cases hb

set_option maxRecDepth 100000 in
theorem crc_ev (h : AHeap) (b off n kap : Nat) (l : List Value) (x : Nat) (hl : sliceCells h b off n = some l) (hb : byteCells l = true) (hx : crcBytes l 4294967295 = some x) (hn : n < 4294967296) :
    Ev TB 180 [.slice (some ⟨b, off, none⟩) n kap] h (.int .u32 ((Nat.xor x 4294967295 : Nat) : Int)) h := by
  have hlen : l.length = n := by
    unfold sliceCells at hl
    split at hl
    · exact (seg_val hl).2
    · cases hl
  have key : ∃ v h', Ev TB 180 [.slice (some ⟨b, off, none⟩) n kap] h v h' ∧ (v = .int .u32 ((Nat.xor x 4294967295 : Nat) : Int) ∧ h' = h) := by
    refine Ev.of_wp csumm181 cfunc181 cbody181 ?_
    rw [cres181]
    -- what stands behind the loop
    have post : ∀ (f : Env), f 3 = some (.int .u32 (x : Nat)) → wpCode TB (seqR (seqR (seqR B181))) f h fun x' g h' => (x' = .normal ∨ x' = .ret) ∧ (match resultsA TB h' g [.tmp 2] with | some l => (answer l = .int .u32 ((Nat.xor x 4294967295 : Nat) : Int) ∧ h' = h) | none => False) := by
      intro f h3
      have hp : seqR (seqR (seqR B181)) = .seq (.region 11 (regOps (seqL (seqR (seqR (seqR B181))))) false) .ret := by kernel_rfl
      have hx32 : x < 4294967296 := by
        obtain ⟨y, h1, h2⟩ := crcBytes_take l 4294967295 hb (by omega) n
        rw [List.take_of_length_le (by omega), hx] at h1
        injection h1 with h1; omega
      have hq := (post_eq (x : Nat) h (fun v2 h' => ∀ g, Has g 2 v2 → (∃ l, resultsA TB h' g [.tmp 2] = some l ∧ answer l = .int .u32 ((Nat.xor x 4294967295 : Nat) : Int) ∧ h' = h))).mpr (fun g hg => by
        have h2 := hg _ rfl
        refine ⟨[.int .u32 ((Nat.xor x 4294967295 : Nat) : Int)], ?_, rfl, rfl⟩
        have e : bitsI .xor 4294967295 ((x : Nat) : Int) = ((Nat.xor x 4294967295 : Nat) : Int) := by
          rw [show (4294967295 : Int) = ((4294967295 : Nat) : Int) from rfl, bits_xor _ _ (by omega) hx32]
          congr 1
          exact Nat.xor_comm _ _
        rw [e] at h2
        simp only [resultsA, h2])
      rw [hp] at hq ⊢
      refine seg_of (L := [(3, .int .u32 (x : Nat))]) ⟨h3, trivial⟩ ?_
      have hq' : AM.wpOps TB (regOps (seqL (seqR (seqR (seqR B181))))).toList (regOps (seqL (seqR (seqR (seqR B181))))).toList (envOf [(3, .int .u32 (x : Nat))]) h
        (fun f h' => ∀ g, Has g 2 (f 2) → (∃ l, resultsA TB h' g [.tmp 2] = some l ∧ answer l = .int .u32 ((Nat.xor x 4294967295 : Nat) : Int) ∧ h' = h)) := hq
      refine wpOps_mono (fun f' h' hx' g H => ?_) hq'
      obtain ⟨l', h1, h2, h3'⟩ := hx' g (.of H 2)
      refine ⟨.inr rfl, ?_⟩
      rw [h1]; exact ⟨h2, h3'⟩
    -- the loop
    have loop : ∀ f : Env, Slots f [(3, .int .u32 (4294967295 : Nat)), (6, .slice (some ⟨b, off, none⟩) n kap), (7, .int .i64 n), (8, .int .i64 0)] →
        wpCode TB (.block 0 (.loop OB)) f h fun x' g h' => match x' with
          | .normal => wpCode TB (seqR (seqR (seqR B181))) g h' fun x' g h' => (x' = .normal ∨ x' = .ret) ∧ (match resultsA TB h' g [.tmp 2] with | some l => (answer l = .int .u32 ((Nat.xor x 4294967295 : Nat) : Int) ∧ h' = h) | none => False)
          | _ => False := by
      intro f hS
      unfold wpCode
      refine loop_inv (fun s : Nat × Nat => [(3, .int .u32 (s.1 : Int)), (6, .slice (some ⟨b, off, none⟩) n kap), (7, .int .i64 n), (8, .int .i64 (s.2 : Int))])
        (fun s h' => s.2 ≤ n ∧ crcBytes (l.take s.2) 4294967295 = some s.1 ∧ s.1 < 4294967296 ∧ h' = h) (fun s => n - s.2) (4294967295, 0) hS ⟨by omega, by simp [crcBytes], by omega, rfl⟩ ?_
      rintro ⟨a, i⟩ h' ⟨hi, hcr, ha, rfl⟩
      simp only at hi hcr ha
      rw [OB_shape]
      unfold wpCode
      refine R3_use (a : Int) (n : Int) (i : Int) _ h' ⟨rfl, rfl, rfl, rfl, trivial⟩ fun g h9 hg => ?_
      show wpCode TB (.seq (.cond (.tmp 9) .skip (.exit 0)) _) g h' _
      unfold wpCode
      unfold wpCode
      rw [show ev TB g (.tmp 9) = some (.bool (decide ((i : Int) < (n : Int)))) from h9]
      simp only
      by_cases hlt : (i : Int) < (n : Int)
      · rw [decide_eq_true hlt]
        simp only [cond_true]
        unfold wpCode
        -- a byte
        have hil : i < l.length := by omega
        obtain ⟨c, hc, hc256⟩ := byteCells_get hb (List.getElem?_eq_getElem hil)
        show wpCode TB (.seq (.block 1 (.seq (seqL OB1) (.seq (seqL (seqR OB1)) (.seq (seqL (seqR (seqR OB1))) (.block 2 (.loop IB)))))) (seqR (seqR (seqR OB)))) g h' _
        unfold wpCode
        unfold wpCode
        unfold wpCode
        rw [R4_shape]
        have hd := R4_dst
        have hgd := R4_grd
        have hop := R4_op
        have hops : (regOps (seqL OB1)).toList = opsR4 := rfl
        unfold wpCode
        rw [hops]
        obtain ⟨o1, o2, o3, hL⟩ := list3 (by simpa using congrArg List.length hd : opsR4.length = 3)
        rw [hL] at hd hgd hop ⊢
        simp only [List.map_cons, List.map_nil, List.cons.injEq, and_true] at hd hgd hop
        obtain ⟨d1, d2, d3⟩ := hd
        obtain ⟨g1, g2, g3⟩ := hgd
        obtain ⟨p1, p2, p3⟩ := hop
        obtain ⟨g_3, g_6, g_7, g_8, _⟩ := hg
        have step : ∀ {all rest : List Oper} {o : Oper} {f : Env} {K : Env → AHeap → Prop} {d : Nat} {v : Value}, o.guard = none → o.dst = some d → opA TB h' f o.op = some (.value v, h') → AM.wpOps TB all rest (upd f d v) h' K → AM.wpOps TB all (o :: rest) f h' K := by
          intro all rest o f K d v hg hd ho hw
          unfold AM.wpOps
          simp only [wantedA, hg, cond_true, AM.wpOp, ho, hd, updD]
          exact hw
        have hnth : nth l i = some (.int .u8 (c : Int)) := by rw [nth_eq, List.getElem?_eq_getElem hil, hc]
        have hcell : loadA TB h' 5 b (off + i * 1) = some (.int .u8 (c : Int)) := by
          unfold sliceCells at hl
          split at hl
          · rename_i vs hvs
            unfold loadA
            rw [hvs, cagg5]
            simp only
            rw [nth_eq, Nat.mul_one, ← seg_get hl i (by omega), ← nth_eq, hnth]
          · cases hl
        have r67 : ∀ (f : Env) (t : Nat) (v u : Value) (d : Nat), f t = some v → Nat.beq t d = false → upd f d u t = some v := fun f t v u d h1 h2 => by
          unfold upd; rw [h2]; exact h1
        have self : ∀ (f : Env) (u : Value) (d : Nat), upd f d u d = some u := fun f u d => by unfold upd; rw [Nat.beq_refl]; rfl
        refine step g1 d1 (v := .pointer (some ⟨b, off + i * 1, none⟩)) (by
          rw [p1]
          simp only [opA, ev, g_6, g_8, cund53, csize5, decide_eq_true (show (0 : Int) ≤ (i : Int) by omega), decide_eq_true hlt, Bool.and_true, cond_true, Int.toNat_natCast]) ?_
        refine step g2 d2 (v := .int .u8 (c : Int)) (by
          rw [p2]
          simp only [opA, ev, self, hcell]) ?_
        refine step g3 d3 (v := .int .u8 (c : Int)) (by
          rw [p3]
          simp only [opA, ev, self]) ?_
        unfold AM.wpOps
        have e3 : ∀ (t : Nat) (v : Value), g t = some v → Nat.beq t 10 = false → Nat.beq t 11 = false → Nat.beq t 5 = false → upd (upd (upd g 10 (.pointer (some ⟨b, off + i * 1, none⟩))) 11 (.int .u8 (c : Int))) 5 (.int .u8 (c : Int)) t = some v := fun t v q1 q2 q3 q4 =>
          r67 _ _ _ _ _ (r67 _ _ _ _ _ (r67 _ _ _ _ _ q1 q2) q3) q4
        simp only
        have hxor : Nat.xor a c < 4294967296 := Nat.xor_lt_two_pow (n := 32) ha (by omega)
        unfold wpCode
        refine wpCode_mono ?_ (R5_use (a : Int) (n : Int) (i : Int) (c : Int) (.slice (some ⟨b, off, none⟩) n kap) h' ⟨e3 3 _ g_3 rfl rfl rfl, self _ _ _, e3 6 _ g_6 rfl rfl rfl, e3 7 _ g_7 rfl rfl rfl, e3 8 _ g_8 rfl rfl rfl, trivial⟩
          (K := fun g2 h2 => h2 = h' ∧ Slots g2 [(3, .int .u32 ((Nat.xor a c : Nat) : Int)), (16, .int .i64 0), (6, .slice (some ⟨b, off, none⟩) n kap), (7, .int .i64 n), (8, .int .i64 (i : Int))]) (fun g2 q => ⟨rfl, by
            rw [u32_small c (by omega), bits_xor a c ha (by omega)] at q
            exact q⟩))
        intro x5 f5 h5 hx5
        cases x5 with
        | exit _ => exact hx5.elim
        | ret => exact hx5.elim
        | normal =>
          simp only at hx5 ⊢
          unfold wpCode
          refine wpCode_mono ?_ hx5
          intro x6 f6 h6 hx6
          cases x6 with
          | exit _ => exact hx6.elim
          | ret => exact hx6.elim
          | normal =>
            simp only at hx6 ⊢
            obtain ⟨rfl, q3, q16, q6, q7, q8, _⟩ := hx6
            refine inner _ _ _ _ f6 h6 _ q3 q16 q6 q7 q8 fun f7 w3 w6 w7 w8 => ?_
            simp only
            refine R10_use _ _ _ _ h6 ⟨w3, w6, w7, w8, trivial⟩ fun g9 hg9 => ?_
            simp only
            have hi8 := iter8 _ hxor
            obtain ⟨z3, z6, z7, z8, _⟩ := hg9
            refine ⟨(crc8 (Nat.xor a c), i + 1), ⟨by rw [z3, hi8.1], z6, z7, by rw [z8, i64_small _ (by omega) (by omega)]; rfl, trivial⟩, ⟨by simp only; omega, ?_, hi8.2, trivial⟩, by simp only; omega⟩
            simp only
            rw [List.take_add_one, List.getElem?_eq_getElem hil, hc]
            have hbt : byteCells (l.take i) = true := by
              have : ∀ (m : List Value) (k : Nat), byteCells m = true → byteCells (m.take k) = true := by
                intro m
                induction m with
                | nil => intro k _; simp [byteCells]
                | cons u m ih =>
                  intro k hm
                  cases k with
                  | zero => rfl
                  | succ k =>
                    unfold byteCells at hm
                    split at hm
                    · rename_i heq; cases heq
                    · rename_i n' l' heq
                      injection heq with q1 q2
                      subst q1; subst q2
                      simp only [Bool.and_eq_true] at hm
                      rw [List.take_succ_cons]
                      unfold byteCells
                      simp only [Bool.and_eq_true]
                      exact ⟨hm.1, ih k hm.2⟩
                    · cases hm
              exact this l i hb
            exact crcBytes_append _ _ _ _ hbt hcr
      · rw [decide_eq_false hlt]
        simp only [cond_false]
        have : i = n := by omega
        subst this
        rw [List.take_of_length_le (by omega), hx] at hcr
        injection hcr with hcr
        subst hcr
        unfold wpCode
        show cond (Nat.beq 0 0) _ _
        exact post g hg.1
    rw [B_shape]
    have hr0 : seqL B181 = .region 0 (regOps (seqL B181)) false := by kernel_rfl
    have hr1 : seqL (seqR B181) = .region 1 (regOps (seqL (seqR B181))) false := by kernel_rfl
    have hr2 : seqL (seqL (seqR (seqR B181))) = .region 2 (regOps (seqL (seqL (seqR (seqR B181))))) false := by kernel_rfl
    have hpre := (pre_eq n kap ⟨b, off, none⟩ h (fun v3 v6 v7 v8 h' => ∀ g, Has g 3 v3 → Has g 6 v6 → Has g 7 v7 → Has g 8 v8 → (h' = h ∧ Slots g [(3, .int .u32 (4294967295 : Nat)), (6, .slice (some ⟨b, off, none⟩) n kap), (7, .int .i64 n), (8, .int .i64 0)]))).mpr
      (fun g h3 h6 h7 h8 => ⟨rfl, h3 _ rfl, h6 _ rfl, h7 _ rfl, h8 _ rfl, trivial⟩)
    rw [hr0, hr1, hr2] at hpre
    rw [hr0, hr1, hr2]
    have hpre' : AM.wpOps TB (regOps (seqL B181)).toList (regOps (seqL B181)).toList (argEnv [.slice (some ⟨b, off, none⟩) n kap]) h fun f h1 => AM.wpOps TB (regOps (seqL (seqR B181))).toList (regOps (seqL (seqR B181))).toList f h1 fun f h1 =>
        AM.wpOps TB (regOps (seqL (seqL (seqR (seqR B181))))).toList (regOps (seqL (seqL (seqR (seqR B181))))).toList f h1 fun f h' => ∀ g, Has g 3 (f 3) → Has g 6 (f 6) → Has g 7 (f 7) → Has g 8 (f 8) → (h' = h ∧ Slots g [(3, .int .u32 (4294967295 : Nat)), (6, .slice (some ⟨b, off, none⟩) n kap), (7, .int .i64 n), (8, .int .i64 0)]) := hpre
    unfold wpCode
    unfold wpCode
    refine wpOps_mono (fun f1 h1 hx => ?_) hpre'
    simp only
    unfold wpCode
    unfold wpCode
    refine wpOps_mono (fun f2 h2 hx2 => ?_) hx
    simp only
    unfold wpCode
    unfold wpCode
    unfold wpCode
    refine wpOps_mono (fun f3 h3 hx3 => ?_) hx2
    obtain ⟨rfl, hsl⟩ := hx3 f3 (.of (EnvLe.refl _) 3) (.of (EnvLe.refl _) 6) (.of (EnvLe.refl _) 7) (.of (EnvLe.refl _) 8)
    simp only
    refine wpCode_mono (fun x' g' h' hx' => ?_) (loop f3 hsl)
    cases x' with
    | normal => exact hx'
    | exit _ => exact hx'.elim
    | ret => exact hx'.elim
  obtain ⟨v, h', hE, rfl, rfl⟩ := key
  exact hE

/-- the sum of bytes -/
def sumCrcB (args : List Value) (h : AHeap) : Option (Value × AHeap) :=
  match args with
  | [.slice none 0 0] => some (.int .u32 0, h)
  | [.slice (some ⟨b, off, none⟩) n _] => match sliceCells h b off n with
    | some l => bif byteCells l && Nat.blt n 4294967296 then (match crcBytes l 4294967295 with
      | some x => some (.int .u32 ((Nat.xor x 4294967295 : Nat) : Int), h)
      | none => none) else none
    | none => none
  | _ => none
theorem codesB : CodesOk TB := mkT_codes rfl hc
theorem crc_nil (h : AHeap) : runCall TB 60 180 [.slice none 0 0] h = some (.int .u32 0, h) := by kernel_rfl
theorem crc_sound (hgood : TB.Good Tryz.prog) (args : List Value) (h : AHeap) (v : Value) (h' : AHeap) (e : sumCrcB args h = some (v, h')) : CallSound Tryz.prog TB 180 args h v h' := by
  have snd : ∀ n, ∀ f args h v h', runCall TB n f args h = some (v, h') → CallSound Tryz.prog TB f args h v h' := fun n => am_sound hgood mix codesB (fun f s h => by cases h) n
  unfold sumCrcB at e
  split at e
  · simp only [Option.some.injEq, Prod.mk.injEq] at e
    obtain ⟨rfl, rfl⟩ := e
    exact snd _ _ _ _ _ _ (crc_nil h)
  · rename_i b off n kap
    split at e
    · rename_i l hl
      cases hb : byteCells l && Nat.blt n 4294967296 with
      | false => rw [hb] at e; cases e
      | true =>
        rw [hb] at e
        simp only [Bool.and_eq_true] at hb
        simp only [cond_true] at e
        split at e
        · rename_i x hx
          simp only [Option.some.injEq, Prod.mk.injEq] at e
          obtain ⟨rfl, rfl⟩ := e
          obtain ⟨m, hm⟩ := crc_ev h b off n kap l x hl hb.1 hx (Nat.blt_eq.mp hb.2)
          exact snd _ _ _ _ _ _ hm
        · cases e
    · cases e
  · cases e
#print axioms crc_sound
end Go.Proofs.S1
