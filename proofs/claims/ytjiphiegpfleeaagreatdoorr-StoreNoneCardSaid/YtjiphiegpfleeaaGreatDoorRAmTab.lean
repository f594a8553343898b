import Derived.Test.YtjiphiegpfleeaaGreatDoorRAmDraw8
namespace Go.AM

/-! tables -/
def getOr {α : Type} (t : Trie α) (skip : Nat → Bool) (n : Nat) : Option α := bif skip n then none else t.get n

/-! summaries -/
def crcStep (x : Nat) : Nat := Nat.xor (Nat.shiftRight x 1) (bif Nat.beq (Nat.mod x 2) 1 then 0xedb88320 else 0)
def crc8 (x : Nat) : Nat := crcStep (crcStep (crcStep (crcStep (crcStep (crcStep (crcStep (crcStep x)))))))
def crcBytes : List Value → Nat → Option Nat
  | [], x => some x
  | .int .u8 n :: l, x => crcBytes l (crc8 (Nat.xor x n.toNat))
  | _, _ => none
def sumCrc (args : List Value) (h : AHeap) : Option (Value × AHeap) :=
  match args with
  | [.slice none _ _] => some (.int .u32 0, h)
  | [.slice (some a) n _] => match sliceCells h a.block a.off n with
    | some l => match crcBytes l 0xffffffff with
      | some x => some (.int .u32 (Int.ofNat (Nat.xor x 0xffffffff)), h)
      | none => none
    | none => none
  | _ => none
def insK (lt : Value → Value → Bool) (a : Value) : List Value → List Value
  | [] => [a]
  | b :: l => bif lt b a then b :: insK lt a l else a :: b :: l
def sortK (lt : Value → Value → Bool) : List Value → List Value
  | [] => []
  | a :: l => insK lt a (sortK lt l)
def ltV : Value → Value → Bool
  | .int _ a, .int _ b => decide (a < b)
  | .string a, .string b => Op.bytesLess (strBytes a) (strBytes b)
  | _, _ => false
def rowOf (l : List Value) (h : AHeap) : Value × AHeap :=
  match l with
  | [] => (.slice none 0 0, h)
  | _ => match h.newRow 1 l with | (id, h) => (.slice (some ⟨id, 0, none⟩) l.length l.length, h)

end Go.AM
