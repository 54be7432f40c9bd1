/- Nodes of a tree as data, and how they lie in memory. No program in sight. -/
import Derived.WalkKit
import Derived.Below
import Derived.Deep.Draws
import Derived.Lib.Hide
namespace Go.Proofs.YtjdeomenioagdaaGreatDoor
open Go.RowKit
/-- A node of a tree, as data. -/
structure Node where
  kind : Int
  text : ByteArray
  n : Int
  type : ByteArray
  slot : Int
  at_ : Int
  line : Int
  kids : List Node
def Node.size : Node → Nat
  | ⟨_, _, _, _, _, _, _, ks⟩ => 1 + sizes ks
where sizes : List Node → Nat
  | [] => 0
  | k :: r => k.size + sizes r
theorem Node.size_pos (n : Node) : 0 < n.size := by cases n; simp [Node.size]; omega
theorem Node.sizes_mem {l : List Node} {k : Node} (h : k ∈ l) : k.size ≤ Node.size.sizes l := by
  induction l with
  | nil => cases h
  | cons a r ih =>
    simp only [Node.size.sizes]
    rcases List.mem_cons.1 h with rfl | h
    · omega
    · have := ih h; omega
theorem Node.size_kid {n k : Node} (h : k ∈ n.kids) : k.size < n.size := by
  cases n
  have := Node.sizes_mem h
  simp only [Node.size]
  simp only at this
  omega
/-- The address of field j. -/
abbrev fld (a : Addr) (j : Nat) : Addr := ⟨a.block, a.off + j, none⟩
def Int64 (z : Int) : Prop := -9223372036854775808 ≤ z ∧ z ≤ 9223372036854775807
/-- The node's eight cells at a, and what they lead to, all below block B. -/
inductive NodeAt (w : World) (B : Nat) : Addr → Node → Prop where
  | mk (a : Addr) (n : Node) (A : Option Addr) (c : Nat) (hb : a.block < B) (ht : n.text.size ≤ 1048576) (ht' : n.type.size ≤ 1048576) (hi : Int64 n.n)
    (c0 : w.cell? a = some (.int .i64 n.kind)) (c1 : w.cell? (fld a 1) = some (.string n.text)) (c2 : w.cell? (fld a 2) = some (.int .i64 n.n))
    (c3 : w.cell? (fld a 3) = some (.string n.type)) (c4 : w.cell? (fld a 4) = some (.int .i64 n.slot)) (c5 : w.cell? (fld a 5) = some (.int .i64 n.at_))
    (c6 : w.cell? (fld a 6) = some (.int .i64 n.line)) (c7 : w.cell? (fld a 7) = some (.slice A n.kids.length c)) (hc : n.kids.length ≤ c) (hc' : n.kids.length ≤ 1048576) (hcc : c ≤ 9223372036854775807)
    (hA : 0 < n.kids.length → ∃ ad, A = some ad) (hk : ∀ ad, A = some ad → ∀ i (h : i < n.kids.length), NodeAt w B (ad.add (i * 8)) n.kids[i]) : NodeAt w B a n
/-- A slice of nodes. -/
structure KidsAt (w : World) (B : Nat) (A : Option Addr) (l : List Node) (c : Nat) : Prop where
  le : l.length ≤ c
  le' : l.length ≤ 1048576
  cap : c ≤ 9223372036854775807
  some_ : 0 < l.length → ∃ ad, A = some ad
  at_ : ∀ ad, A = some ad → ∀ i (h : i < l.length), NodeAt w B (ad.add (i * 8)) l[i]
theorem NodeAt.open_ {w : World} {B : Nat} {a : Addr} {n : Node} (h : NodeAt w B a n) : ∃ A c, a.block < B ∧ w.cell? a = some (.int .i64 n.kind) ∧ w.cell? (fld a 1) = some (.string n.text) ∧
    w.cell? (fld a 2) = some (.int .i64 n.n) ∧ w.cell? (fld a 3) = some (.string n.type) ∧ w.cell? (fld a 7) = some (.slice A n.kids.length c) ∧ KidsAt w B A n.kids c := by
  cases h with
  | mk _ _ A c hb _ _ _ c0 c1 c2 c3 c4 c5 c6 c7 hc hc' hcc hA hk => exact ⟨A, c, hb, c0, c1, c2, c3, c7, hc, hc', hcc, hA, hk⟩
theorem NodeAt.text_le {w : World} {B : Nat} {a : Addr} {n : Node} (h : NodeAt w B a n) : n.text.size ≤ 1048576 := by cases h; assumption
theorem NodeAt.int64 {w : World} {B : Nat} {a : Addr} {n : Node} (h : NodeAt w B a n) : Int64 n.n := by cases h; assumption
theorem NodeAt.type_le {w : World} {B : Nat} {a : Addr} {n : Node} (h : NodeAt w B a n) : n.type.size ≤ 1048576 := by cases h; assumption
/-- What lies below B is as it was in w0. -/
structure Ro (w0 : World) (B : Nat) (w : World) : Prop where
  below : Below B w0 w
  size : B ≤ w.heap.size
theorem Ro.cell {w0 w : World} {B : Nat} (h : Ro w0 B w) : ∀ a : Addr, a.block < B → w.cell? a = w0.cell? a := fun _ ha => h.below.cell ha
theorem Ro.lt {w0 w : World} {B : Nat} (h : Ro w0 B w) {a : Addr} (ha : a.block < B) : a.block < w.heap.size := by have := h.size; omega
theorem Ro.drew {w0 w : World} {B : Nat} (h : Ro w0 B w) : Ro w0 B w.drew := ⟨h.below.drew, h.size⟩
theorem Ro.alloc {w0 w : World} {B : Nat} (h : Ro w0 B w) (o : Obj) : Ro w0 B (w.alloc o) := ⟨h.below.alloc h.size o, by have := h.size; simp; omega⟩
theorem Ro.set_ {w0 w : World} {B : Nat} (h : Ro w0 B w) {p : Addr} (hp : B ≤ p.block) (u : Value) : Ro w0 B (w.setCell p u) := ⟨h.below.setCell hp u, by have := h.size; simpa [World.setCell] using this⟩
theorem Ro.below_ {w0 w w' : World} {B : Nat} (h : Ro w0 B w) (hb : Below w.heap.size w w') : Ro w0 B w' := ⟨h.below.trans (hb.mono h.size), by have := h.size; have := hb.size; omega⟩
end Go.Proofs.YtjdeomenioagdaaGreatDoor
