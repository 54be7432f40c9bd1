/- What the two programs come to: which trees are right, how many nodes, how deep. Plain Lean. -/
import Derived.Test.YtjdeomenioagdaaGreatDoorNode
namespace Go.Proofs.YtjdeomenioagdaaGreatDoor
def str (l : List UInt8) : ByteArray := ⟨l.toArray⟩
def isT (t : ByteArray) (l : List UInt8) : Bool := t.toList == l
def marksB (k : Int) : Bool := (k ≥ 21 && k ≤ 24) || k == 26 || k == 27 || k == 28 || k == 30
def bareB (n : Node) (text typ num : Bool) : Bool := (text || n.text.toList.isEmpty) && (typ || marksB n.kind || n.type.toList.isEmpty) && (num || n.n == 0)
def wordsL : List (List UInt8) := [[77, 117, 116, 101, 120], [87, 97, 105, 116, 71, 114, 111, 117, 112], [98, 111, 111, 108], [98, 114, 101, 97, 107], [99, 97, 112], [99, 97, 115, 101], [99, 104, 97, 110], [99, 108, 111, 115, 101], [99, 111, 110, 116, 105, 110, 117, 101], [100, 101, 102, 97, 117, 108, 116], [101, 108, 115, 101], [102, 97, 108, 115, 101], [102, 111, 114], [102, 117, 110, 99], [103, 111], [105, 102], [105, 110, 116], [108, 101, 110], [109, 97, 107, 101], [110, 105, 108], [112, 114, 105, 110, 116, 108, 110], [114, 97, 110, 103, 101], [114, 101, 116, 117, 114, 110], [115, 101, 108, 101, 99, 116], [115, 119, 105, 116, 99, 104], [116, 114, 117, 101], [118, 97, 114], [121, 105, 101, 108, 100]]
def wordB (t : ByteArray) : Bool := wordsL.contains t.toList
def letterB (c : UInt8) : Bool := (65 ≤ c && c ≤ 90) || (97 ≤ c && c ≤ 122) || c == 95
def digitB (c : UInt8) : Bool := 48 ≤ c && c ≤ 57
def nameL : List UInt8 → Bool
  | [] => false
  | c :: r => letterB c && r.all fun c => letterB c || digitB c
def nameB (t : ByteArray) : Bool := decide (t.size ≤ 30) && nameL t.toList && !wordB t
def properB (t : ByteArray) : Bool := nameB t && !isT t [95]
/-- A channel's type taken apart by its first words: the direction, the element, is it one? -/
def cutL (t : List UInt8) : Int × List UInt8 × Bool :=
  if [99, 104, 97, 110, 60, 45, 32].isPrefixOf t then (1, t.drop 7, true) else
  if [60, 45, 99, 104, 97, 110, 32].isPrefixOf t then (2, t.drop 7, true) else
  if [99, 104, 97, 110, 32].isPrefixOf t then
    let e := t.drop 5
    if [40].isPrefixOf e then
      if [41].isSuffixOf (e.drop 1) then (0, (e.drop 1).take ((e.drop 1).length - 1), [60, 45].isPrefixOf ((e.drop 1).take ((e.drop 1).length - 1))) else (0, e.drop 1, false)
    else (0, e, !([60, 45].isPrefixOf e))
  else (0, [], false)
def plainL (t : List UInt8) : Bool := t == [105, 110, 116] || t == [98, 111, 111, 108] || t == [77, 117, 116, 101, 120] || t == [87, 97, 105, 116, 71, 114, 111, 117, 112]
theorem cutL_len (t : List UInt8) (h : (cutL t).2.2 = true) : (cutL t).2.1.length < t.length := by
  unfold cutL at h ⊢
  have hp : ∀ p : List UInt8, p.isPrefixOf t = true → p.length ≤ t.length := fun p h => by
    rw [List.isPrefixOf_iff_prefix] at h
    exact h.length_le
  split at h
  · rename_i h1
    have := hp _ h1
    rw [if_pos h1]
    simp only [List.length_drop]
    simp only [List.length_cons, List.length_nil] at this
    omega
  · rename_i h1
    rw [if_neg h1]
    split at h
    · rename_i h2
      have := hp _ h2
      rw [if_pos h2]
      simp only [List.length_drop]
      simp only [List.length_cons, List.length_nil] at this
      omega
    · rename_i h2
      rw [if_neg h2]
      split at h
      · rename_i h3
        have := hp _ h3
        simp only [List.length_cons, List.length_nil] at this
        rw [if_pos h3]
        dsimp only
        split
        · split
          · simp only [List.length_take, List.length_drop]; omega
          · simp only [List.length_drop]; omega
        · simp only [List.length_drop]; omega
      · cases h
/-- How many channels a type has; none: it is no type (its depth aside). -/
def measN (t : List UInt8) : Option Nat := if plainL t then some 0 else if h : (cutL t).2.2 = true then (measN (cutL t).2.1).map (· + 1) else none
termination_by t.length
decreasing_by exact cutL_len t h
def tyB (t : ByteArray) : Bool := match measN t.toList with
  | some n => decide (n ≤ 40)
  | none => false
def bindsI (t : ByteArray) : Int :=
  if isT t [124, 124] then 1 else if isT t [38, 38] then 2 else
  if isT t [61, 61] || isT t [33, 61] || isT t [60] || isT t [60, 61] || isT t [62] || isT t [62, 61] then 3 else
  if isT t [43] || isT t [45] then 4 else if isT t [42] || isT t [47] || isT t [37] then 5 else 0
def recvB (n : Node) : Bool := n.kind == 26 && isT n.text [60, 45]
def signB (t : ByteArray) : Bool := isT t [43] || isT t [45] || isT t [33] || isT t [60, 45]
def methB (t : ByteArray) : Bool := isT t [76, 111, 99, 107] || isT t [85, 110, 108, 111, 99, 107] || isT t [65, 100, 100] || isT t [68, 111, 110, 101] || isT t [87, 97, 105, 116]
def cwordB (t : ByteArray) : Bool := isT t [108, 101, 110] || isT t [99, 97, 112] || isT t [99, 108, 111, 115, 101] || isT t [121, 105, 101, 108, 100] || isT t [112, 114, 105, 110, 116, 108, 110]
def leafB (n : Node) : Bool := n.kids.isEmpty && (
  if n.kind == 21 then properB n.text && bareB n true true false
  else if n.kind == 22 then decide (0 ≤ n.n) && bareB n false true true
  else if n.kind == 23 then (n.n == 0 || n.n == 1) && bareB n false true true
  else n.kind == 24 && bareB n false true false)
mutual
def exprB : Node → Bool
  | ⟨kind, text, nn, type, slot, at_, line, kids⟩ =>
    if kind == 26 then signB text && exprsB false kids && kids.length == 1 && bareB ⟨kind, text, nn, type, slot, at_, line, kids⟩ true true false
    else if kind == 27 then decide (0 < bindsI text) && exprsB false kids && kids.length == 2 && bareB ⟨kind, text, nn, type, slot, at_, line, kids⟩ true true false
    else if kind == 28 then (cwordB text || properB text) && exprsB (isT text [112, 114, 105, 110, 116, 108, 110]) kids && bareB ⟨kind, text, nn, type, slot, at_, line, kids⟩ true true false
    else if kind == 29 then exprsB false kids && tyB type && decide (kids.length ≤ 1) && bareB ⟨kind, text, nn, type, slot, at_, line, kids⟩ false true false
    else if kind == 30 then methB text && exprsB false kids && decide (1 ≤ kids.length) && bareB ⟨kind, text, nn, type, slot, at_, line, kids⟩ true true false
    else leafB ⟨kind, text, nn, type, slot, at_, line, kids⟩
def exprsB (texts : Bool) : List Node → Bool
  | [] => true
  | k :: r => (if texts && k.kind == 25 then k.type.toList.isEmpty && k.n == 0 && k.kids.isEmpty else exprB k) && exprsB texts r
end
def callB (n : Node) : Bool := (cwordB n.text || properB n.text) && exprsB (isT n.text [112, 114, 105, 110, 116, 108, 110]) n.kids && bareB n true true false
theorem exprB_eq (n : Node) : exprB n = (
    if n.kind == 26 then signB n.text && exprsB false n.kids && n.kids.length == 1 && bareB n true true false
    else if n.kind == 27 then decide (0 < bindsI n.text) && exprsB false n.kids && n.kids.length == 2 && bareB n true true false
    else if n.kind == 28 then callB n
    else if n.kind == 29 then exprsB false n.kids && tyB n.type && decide (n.kids.length ≤ 1) && bareB n false true false
    else if n.kind == 30 then methB n.text && exprsB false n.kids && decide (1 ≤ n.kids.length) && bareB n true true false
    else leafB n) := by cases n; simp only [exprB, callB]
def itemB (texts : Bool) (k : Node) : Bool := if texts && k.kind == 25 then k.type.toList.isEmpty && k.n == 0 && k.kids.isEmpty else exprB k
theorem exprsB_all (texts : Bool) (l : List Node) : exprsB texts l = l.all (itemB texts) := by
  induction l with
  | nil => simp [exprsB]
  | cons k r ih => simp [exprsB, ih, itemB]
def targetB (n : Node) : Bool := n.kind == 21 && nameB n.text && n.kids.isEmpty && bareB n true true false
/-- The i-th kid is there and such. -/
def kidB (n : Node) (i : Nat) (p : Node → Bool) : Bool := (n.kids[i]?).any p
def letsB (n : Node) : Bool := (n.n == 1 || n.n == 2) && ((n.kids.length : Int) == n.n + 1) && bareB n false false true && (n.kids.take n.n.toNat).all targetB &&
  kidB n n.n.toNat exprB && (n.n == 1 || kidB n n.n.toNat recvB) && ((n.kids.take n.n.toNat).any (fun k => !isT k.text [95]) || n.kind == 7)
def simpleB (n : Node) : Bool :=
  if n.kind == 6 || n.kind == 7 then letsB n
  else if n.kind == 8 then (n.n == 1 || n.n == -1) && n.kids.length == 1 && kidB n 0 (fun k => k.kind == 21 && leafB k) && bareB n false false true
  else if n.kind == 9 then exprsB false n.kids && n.kids.length == 2 && bareB n false false false
  else if n.kind == 10 then n.kids.length == 1 && bareB n false false false && kidB n 0 (fun k => exprB k && (recvB k || k.kind == 28 || k.kind == 30))
  else false
def nothingB (n : Node) : Bool := n.kind == 0 && n.kids.isEmpty && bareB n false false false
def loopB (n : Node) : Bool :=
  if n.n == 1 then kidB n 0 exprB
  else if n.n == 2 then kidB n 0 (fun k => simpleB k || nothingB k) && kidB n 1 (fun k => exprB k || nothingB k) && kidB n 2 (fun k => simpleB k && k.kind != 6 || nothingB k)
  else if n.n == 3 then kidB n 1 exprB && (kidB n 0 (fun k => k.kind == 21 && leafB k) && (isT n.text [58, 61] || isT n.text [61]) || kidB n 0 nothingB && n.text.toList.isEmpty)
  else true
def loopN (n : Int) : Nat := if n == 0 then 1 else if n == 1 then 2 else if n == 2 then 4 else 3
def commB (s : Node) : Bool := simpleB s && (s.kind == 9 || s.kind != 8 && (s.kids.getLast?).any recvB)
/-- Of a Case or an Arm what does not hang on its block. -/
def clauseB (kind : Int) (n : Node) : Bool := n.kind == kind && (n.n == 0 || n.n == 1) && bareB n false false true && decide (1 ≤ n.kids.length) &&
  (if n.n == 1 then n.kids.length == 1 else if kind == 14 then decide (2 ≤ n.kids.length) && exprsB false n.kids.dropLast else n.kids.length == 2 && kidB n 0 commB)
def defaults (l : List Node) : Int := (l.map (·.n)).sum
mutual
def stmtB : Node → Bool
  | ⟨kind, text, nn, type, slot, at_, line, kids⟩ =>
    if kind == 4 then bareB ⟨kind, text, nn, type, slot, at_, line, kids⟩ false false false && stmtsB kids
    else if kind == 5 then properB text && tyB type && exprsB false kids && decide (kids.length ≤ 1) && bareB ⟨kind, text, nn, type, slot, at_, line, kids⟩ true true false
    else if kind == 11 then bareB ⟨kind, text, nn, type, slot, at_, line, kids⟩ false false false && ifB kids
    else if kind == 12 then decide (0 ≤ nn) && decide (nn ≤ 3) && kids.length == loopN nn && bareB ⟨kind, text, nn, type, slot, at_, line, kids⟩ (nn == 3) false true && lastB kids && loopB ⟨kind, text, nn, type, slot, at_, line, kids⟩
    else if kind == 13 then (nn == 0 || nn == 1) && decide (nn ≤ kids.length) && bareB ⟨kind, text, nn, type, slot, at_, line, kids⟩ false false true && exprsB false (kids.take nn.toNat) &&
      (kids.drop nn.toNat).all (clauseB 14) && decide (defaults (kids.drop nn.toNat) ≤ 1) && (if nn == 0 then lastsB kids else match kids with | [] => true | _ :: r => lastsB r)
    else if kind == 15 then bareB ⟨kind, text, nn, type, slot, at_, line, kids⟩ false false false && kids.all (clauseB 16) && decide (defaults kids ≤ 1) && lastsB kids
    else if kind == 17 then kids.length == 1 && bareB ⟨kind, text, nn, type, slot, at_, line, kids⟩ false false false && kidB ⟨kind, text, nn, type, slot, at_, line, kids⟩ 0 (fun k => k.kind == 28 && properB k.text && callB k)
    else if kind == 18 then exprsB false kids && decide (kids.length ≤ 1) && bareB ⟨kind, text, nn, type, slot, at_, line, kids⟩ false false false
    else if kind == 19 || kind == 20 then kids.isEmpty && bareB ⟨kind, text, nn, type, slot, at_, line, kids⟩ false false false
    else simpleB ⟨kind, text, nn, type, slot, at_, line, kids⟩
def stmtsB : List Node → Bool
  | [] => true
  | k :: r => stmtB k && stmtsB r
def ifB : List Node → Bool
  | [c, t] => exprB c && (t.kind == 4 && stmtB t)
  | [c, t, e] => exprB c && (t.kind == 4 && stmtB t) && ((e.kind == 11 || e.kind == 4) && stmtB e)
  | _ => false
def lastB : List Node → Bool
  | [] => false
  | [b] => b.kind == 4 && stmtB b
  | _ :: b :: r => lastB (b :: r)
def lastsB : List Node → Bool
  | [] => true
  | ⟨_, _, _, _, _, _, _, ks⟩ :: r => lastB ks && lastsB r
end
def blockB (n : Node) : Bool := n.kind == 4 && stmtB n
def paramB (k : Node) : Bool := k.kind == 3 && properB k.text && tyB k.type && k.kids.isEmpty && bareB k true true false
def funcB (n : Node) : Bool := n.kind == 2 && properB n.text && decide (1 ≤ n.kids.length) && bareB n true true false && (n.type.toList.isEmpty || tyB n.type) && n.kids.dropLast.all paramB && lastB n.kids
mutual
def depthD : Node → Int → Int
  | ⟨_, _, _, _, _, _, _, ks⟩, most => depthsD ks most 0 + 1
def depthsD : List Node → Int → Int → Int
  | [], _, deep => deep
  | k :: r, most, deep => if deep < most then depthsD r most (max deep (depthD k (most - 1))) else deep
end
mutual
def countD : Node → Int → Int
  | ⟨_, _, _, _, _, _, _, ks⟩, most => countsD ks (max most 0) 1
def countsD : List Node → Int → Int → Int
  | [], _, sum => sum
  | k :: r, most, sum => if sum ≤ most then countsD r most (sum + countD k (most - sum)) else sum
end
def rightD (n : Node) : Int := if 40 < depthD n 40 then 42 else if n.kind == 1 && bareB n false false false && n.kids.all funcB then 0 else 41
end Go.Proofs.YtjdeomenioagdaaGreatDoor
