/- What the text of a tree is. No program in sight. -/
import Derived.Test.YtjdeomenioagdaaGreatDoorQuote
set_option linter.unusedVariables false
set_option linter.unusedSimpArgs false
namespace Go.Proofs.YtjdeomenioagdaaGreatDoor
open Go.RowKit
/-- Texts with a comma and a blank between. -/
def joinS : List ByteArray → ByteArray
  | [] => .empty
  | a :: r => a ++ partsS (r.map (str [44, 32] ++ ·))
theorem joinS_step (l : List ByteArray) (k : Nat) (h : k < l.length) : joinS (l.take (k + 1)) = if k = 0 then l[k] else joinS (l.take k) ++ str [44, 32] ++ l[k] := by
  cases l with
  | nil => simp at h
  | cons a r =>
    cases k with
    | zero => simp [joinS, partsS]
    | succ k =>
      simp only [List.take_succ_cons, joinS, List.getElem_cons_succ, Nat.add_one_ne_zero, if_false]
      have h' : k < r.length := by simpa using h
      rw [List.map_take, partsS_take _ _ (by simpa using h'), List.getElem_map, ← List.map_take]
      simp only [ByteArray.append_assoc]
theorem joinS_take_le (l : List ByteArray) (k : Nat) : (joinS (l.take k)).size ≤ (joinS l).size := by
  cases l with
  | nil => simp
  | cons a r =>
    cases k with
    | zero => simp [joinS]
    | succ k =>
      simp only [List.take_succ_cons, joinS, ByteArray.size_append, List.map_take]
      have := partsS_size (r.map (str [44, 32] ++ ·)) k
      omega
def heldS (must : Bool) (t : ByteArray) : ByteArray := if must then str [40] ++ t ++ str [41] else t
def kindAt (l : List Node) (i : Nat) : Int := (l[i]?.map (·.kind)).getD 0
def textAt (l : List Node) (i : Nat) : ByteArray := (l[i]?.map (·.text)).getD .empty
def strAt (l : List ByteArray) (i : Nat) : ByteArray := l[i]?.getD .empty
def plusB (t : ByteArray) : Bool := isT t [43] || isT t [45]
mutual
def toldS : Node → ByteArray
  | ⟨kind, text, nn, type, _, _, _, kids⟩ =>
    if kind == 21 then text
    else if kind == 22 then intS nn
    else if kind == 23 then (if nn == 1 then str [116, 114, 117, 101] else str [102, 97, 108, 115, 101])
    else if kind == 24 then str [110, 105, 108]
    else if kind == 25 then quoteS text
    else if kind == 26 then text ++ heldS (plusB text && kindAt kids 0 == 26 && plusB (textAt kids 0) || kindAt kids 0 == 27) (strAt (toldsS kids) 0)
    else if kind == 27 then heldS (kindAt kids 0 == 27 && decide (bindsI (textAt kids 0) < bindsI text)) (strAt (toldsS kids) 0) ++ str [32] ++ text ++ str [32] ++ heldS (kindAt kids 1 == 27 && decide (bindsI (textAt kids 1) ≤ bindsI text)) (strAt (toldsS kids) 1)
    else if kind == 28 then text ++ str [40] ++ joinS (toldsS kids) ++ str [41]
    else if kind == 29 then (if kids.length == 1 then str [109, 97, 107, 101, 40] ++ type ++ str [44, 32] ++ strAt (toldsS kids) 0 ++ str [41] else str [109, 97, 107, 101, 40] ++ type ++ str [41])
    else heldS (kindAt kids 0 == 27 || kindAt kids 0 == 26) (strAt (toldsS kids) 0) ++ str [46] ++ text ++ str [40] ++ joinS (toldsS kids).tail ++ str [41]
def toldsS : List Node → List ByteArray
  | [] => []
  | k :: r => toldS k :: toldsS r
end
theorem toldsS_map (l : List Node) : toldsS l = l.map toldS := by
  induction l with
  | nil => rfl
  | cons a r ih => simp [toldsS, ih]
def listS (l : List Node) : ByteArray := joinS (l.map toldS)
theorem toldS_eq (n : Node) : toldS n = (
    if n.kind == 21 then n.text
    else if n.kind == 22 then intS n.n
    else if n.kind == 23 then (if n.n == 1 then str [116, 114, 117, 101] else str [102, 97, 108, 115, 101])
    else if n.kind == 24 then str [110, 105, 108]
    else if n.kind == 25 then quoteS n.text
    else if n.kind == 26 then n.text ++ heldS (plusB n.text && kindAt n.kids 0 == 26 && plusB (textAt n.kids 0) || kindAt n.kids 0 == 27) (strAt (n.kids.map toldS) 0)
    else if n.kind == 27 then heldS (kindAt n.kids 0 == 27 && decide (bindsI (textAt n.kids 0) < bindsI n.text)) (strAt (n.kids.map toldS) 0) ++ str [32] ++ n.text ++ str [32] ++ heldS (kindAt n.kids 1 == 27 && decide (bindsI (textAt n.kids 1) ≤ bindsI n.text)) (strAt (n.kids.map toldS) 1)
    else if n.kind == 28 then n.text ++ str [40] ++ listS n.kids ++ str [41]
    else if n.kind == 29 then (if n.kids.length == 1 then str [109, 97, 107, 101, 40] ++ n.type ++ str [44, 32] ++ strAt (n.kids.map toldS) 0 ++ str [41] else str [109, 97, 107, 101, 40] ++ n.type ++ str [41])
    else heldS (kindAt n.kids 0 == 27 || kindAt n.kids 0 == 26) (strAt (n.kids.map toldS) 0) ++ str [46] ++ n.text ++ str [40] ++ listS n.kids.tail ++ str [41]) := by
  cases n
  simp only [toldS, toldsS_map, listS, List.map_tail]
/-- A simple statement, without its line. -/
def shortS (n : Node) : ByteArray :=
  if n.kind == 6 then listS (n.kids.take n.n.toNat) ++ str [32, 58, 61, 32] ++ strAt (n.kids.map toldS) n.n.toNat
  else if n.kind == 7 then listS (n.kids.take n.n.toNat) ++ str [32, 61, 32] ++ strAt (n.kids.map toldS) n.n.toNat
  else if n.kind == 8 then (if n.n == 1 then textAt n.kids 0 ++ str [43, 43] else textAt n.kids 0 ++ str [45, 45])
  else if n.kind == 9 then strAt (n.kids.map toldS) 0 ++ str [32, 60, 45, 32] ++ strAt (n.kids.map toldS) 1
  else if n.kind == 10 then strAt (n.kids.map toldS) 0
  else .empty
def shortAt (l : List Node) (i : Nat) : ByteArray := (l[i]?.map shortS).getD .empty
/-- The head of a for. -/
def headS (n : Node) : ByteArray :=
  if n.n == 1 then strAt (n.kids.map toldS) 0 ++ str [32]
  else if n.n == 2 then shortAt n.kids 0 ++ str [59] ++ (if kindAt n.kids 1 != 0 then str [32] ++ strAt (n.kids.map toldS) 1 else .empty) ++ str [59] ++ (if kindAt n.kids 2 != 0 then str [32] ++ shortAt n.kids 2 else .empty) ++ str [32]
  else if n.n == 3 then (if n.text.toList.isEmpty then .empty else textAt n.kids 0 ++ str [32] ++ n.text ++ str [32]) ++ str [114, 97, 110, 103, 101, 32] ++ strAt (n.kids.map toldS) 1 ++ str [32]
  else .empty
/-- What stands ahead of a clause's colon. -/
def choiceS (n : Node) : ByteArray :=
  if n.n == 1 then str [100, 101, 102, 97, 117, 108, 116] else if n.kind == 14 then str [99, 97, 115, 101, 32] ++ listS n.kids.dropLast else str [99, 97, 115, 101, 32] ++ shortAt n.kids 0
/-- Statements, a line each or more. -/
def linesS (deep : Nat) (l : List ByteArray) : ByteArray := partsS (l.map fun x => tabsS deep ++ x ++ str [10])
def innerS (deep : Nat) (l : List ByteArray) : ByteArray := str [123, 10] ++ linesS (deep + 1) l ++ tabsS deep ++ str [125]
mutual
def rowS : Node → Nat → ByteArray
  | ⟨kind, text, nn, type, slot, at_, line, kids⟩, deep =>
    if kind == 4 then innerS deep (rowsS kids (deep + 1))
    else if kind == 5 then str [118, 97, 114, 32] ++ text ++ str [32] ++ type ++ (if kids.length == 1 then str [32, 61, 32] ++ strAt (kids.map toldS) 0 else .empty)
    else if kind == 11 then str [105, 102, 32] ++ strAt (kids.map toldS) 0 ++ str [32] ++ strAt (blocksS kids deep) 1 ++ (if kids.length == 3 then str [32, 101, 108, 115, 101, 32] ++ strAt (rowsS kids deep) 2 else .empty)
    else if kind == 12 then str [102, 111, 114, 32] ++ headS ⟨kind, text, nn, type, slot, at_, line, kids⟩ ++ strAt (blocksS kids deep) (kids.length - 1)
    else if kind == 13 then str [115, 119, 105, 116, 99, 104, 32] ++ (if nn == 1 then strAt (kids.map toldS) 0 ++ str [32] else .empty) ++ str [123, 10] ++ partsS ((clausesS kids deep).drop nn.toNat) ++ tabsS deep ++ str [125]
    else if kind == 15 then str [115, 101, 108, 101, 99, 116, 32] ++ str [123, 10] ++ partsS (clausesS kids deep) ++ tabsS deep ++ str [125]
    else if kind == 17 then str [103, 111, 32] ++ strAt (kids.map toldS) 0
    else if kind == 18 then str [114, 101, 116, 117, 114, 110] ++ (if kids.length == 1 then str [32] ++ strAt (kids.map toldS) 0 else .empty)
    else if kind == 19 then str [98, 114, 101, 97, 107]
    else if kind == 20 then str [99, 111, 110, 116, 105, 110, 117, 101]
    else shortS ⟨kind, text, nn, type, slot, at_, line, kids⟩
def rowsS : List Node → Nat → List ByteArray
  | [], _ => []
  | k :: r, deep => rowS k deep :: rowsS r deep
def blockS : Node → Nat → ByteArray
  | ⟨_, _, _, _, _, _, _, kids⟩, deep => innerS deep (rowsS kids (deep + 1))
def blocksS : List Node → Nat → List ByteArray
  | [], _ => []
  | k :: r, deep => blockS k deep :: blocksS r deep
def bodyS : Node → Nat → ByteArray
  | ⟨_, _, _, _, _, _, _, kids⟩, deep => linesS deep (rowsS kids deep)
def bodiesS : List Node → Nat → List ByteArray
  | [], _ => []
  | k :: r, deep => bodyS k deep :: bodiesS r deep
def clauseS : Node → Nat → ByteArray
  | ⟨kind, text, nn, type, slot, at_, line, kids⟩, deep => tabsS deep ++ choiceS ⟨kind, text, nn, type, slot, at_, line, kids⟩ ++ str [58, 10] ++ strAt (bodiesS kids (deep + 1)) (kids.length - 1)
def clausesS : List Node → Nat → List ByteArray
  | [], _ => []
  | k :: r, deep => clauseS k deep :: clausesS r deep
end
theorem rowsS_map (l : List Node) (d : Nat) : rowsS l d = l.map (rowS · d) := by
  induction l with
  | nil => rfl
  | cons a r ih => simp [rowsS, ih]
theorem blocksS_map (l : List Node) (d : Nat) : blocksS l d = l.map (blockS · d) := by
  induction l with
  | nil => rfl
  | cons a r ih => simp [blocksS, ih]
theorem bodiesS_map (l : List Node) (d : Nat) : bodiesS l d = l.map (bodyS · d) := by
  induction l with
  | nil => rfl
  | cons a r ih => simp [bodiesS, ih]
theorem clausesS_map (l : List Node) (d : Nat) : clausesS l d = l.map (clauseS · d) := by
  induction l with
  | nil => rfl
  | cons a r ih => simp [clausesS, ih]
end Go.Proofs.YtjdeomenioagdaaGreatDoor
