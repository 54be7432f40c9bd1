/- Trees that a program makes: where their rows lie, and that no two share a block. -/
import Derived.Test.YtjdeomenioagdaaGreatDoorRight
import Derived.Deep.AppendLies
set_option linter.unusedVariables false
set_option linter.unusedSimpArgs false
namespace Go.Proofs.YtjdeomenioagdaaGreatDoor
open Go.RowKit
/-- A tree at a whose rows lie in blocks from lo on, below hi, no two in one block. -/
inductive NodeOwn (w : World) : Nat → Nat → Addr → Node → Prop where
  | mk (lo hi : Nat) (a : Addr) (n : Node) (A : Option Addr) (c : Nat) (s e : Nat → Nat) (ht : n.text.size ≤ 1048576) (ht' : n.type.size ≤ 1048576) (hi' : Int64 n.n)
    (c0 : w.cell? a = some (.int .i64 n.kind)) (c1 : w.cell? (fld a 1) = some (.string n.text)) (c2 : w.cell? (fld a 2) = some (.int .i64 n.n))
    (c3 : w.cell? (fld a 3) = some (.string n.type)) (c4 : w.cell? (fld a 4) = some (.int .i64 n.slot)) (c5 : w.cell? (fld a 5) = some (.int .i64 n.at_))
    (c6 : w.cell? (fld a 6) = some (.int .i64 n.line)) (c7 : w.cell? (fld a 7) = some (.slice A n.kids.length c)) (hc : n.kids.length ≤ c) (hc' : n.kids.length ≤ 1048576) (hcc : c ≤ 9223372036854775807)
    (nil : A = none → n.kids = [] ∧ c = 0) (row : ∀ ad, A = some ad → ∃ g, ad = ⟨g, 0, none⟩ ∧ lo ≤ g ∧ g < hi ∧ ∃ cs, w.heap[g]? = some (.cells cs 25 (0, 0)) ∧ cs.size = c * 8)
    (in_ : ∀ j, j < n.kids.length → lo ≤ s j ∧ s j ≤ e j ∧ e j ≤ hi) (apart : ∀ j k, j < k → k < n.kids.length → e j ≤ s k ∨ e k ≤ s j)
    (off : ∀ ad, A = some ad → ∀ j, j < n.kids.length → ¬ (s j ≤ ad.block ∧ ad.block < e j))
    (kids : ∀ ad, A = some ad → ∀ j (h : j < n.kids.length), NodeOwn w (s j) (e j) (ad.add (j * 8)) n.kids[j]) : NodeOwn w lo hi a n
structure KidsOwn (w : World) (lo hi : Nat) (A : Option Addr) (l : List Node) (c : Nat) : Prop where
  le : l.length ≤ c
  le' : l.length ≤ 1048576
  cap : c ≤ 9223372036854775807
  nil : A = none → l = [] ∧ c = 0
  row : ∀ ad, A = some ad → ∃ g, ad = ⟨g, 0, none⟩ ∧ lo ≤ g ∧ g < hi ∧ ∃ cs, w.heap[g]? = some (.cells cs 25 (0, 0)) ∧ cs.size = c * 8
  kids : ∃ s e : Nat → Nat, (∀ j, j < l.length → lo ≤ s j ∧ s j ≤ e j ∧ e j ≤ hi) ∧ (∀ j k, j < k → k < l.length → e j ≤ s k ∨ e k ≤ s j) ∧
    (∀ ad, A = some ad → ∀ j, j < l.length → ¬ (s j ≤ ad.block ∧ ad.block < e j)) ∧ ∀ ad, A = some ad → ∀ j (h : j < l.length), NodeOwn w (s j) (e j) (ad.add (j * 8)) l[j]
/-- A node by value, its rows so. -/
structure VOwn (w : World) (lo hi : Nat) (A : Option Addr) (n : Node) (c : Nat) : Prop where
  kids : KidsOwn w lo hi A n.kids c
  ht : n.text.size ≤ 1048576
  ht' : n.type.size ≤ 1048576
  hi' : Int64 n.n
theorem NodeOwn.open_ {w : World} {lo hi : Nat} {a : Addr} {n : Node} (h : NodeOwn w lo hi a n) : ∃ A c, VOwn w lo hi A n c ∧
    w.cell? a = some (.int .i64 n.kind) ∧ w.cell? (fld a 1) = some (.string n.text) ∧ w.cell? (fld a 2) = some (.int .i64 n.n) ∧ w.cell? (fld a 3) = some (.string n.type) ∧
    w.cell? (fld a 4) = some (.int .i64 n.slot) ∧ w.cell? (fld a 5) = some (.int .i64 n.at_) ∧ w.cell? (fld a 6) = some (.int .i64 n.line) ∧ w.cell? (fld a 7) = some (.slice A n.kids.length c) := by
  cases h with
  | mk _ _ _ _ A c s e ht ht' hi' c0 c1 c2 c3 c4 c5 c6 c7 hc hc' hcc nil row in_ apart off kids =>
    exact ⟨A, c, ⟨⟨hc, hc', hcc, nil, row, s, e, in_, apart, off, kids⟩, ht, ht', hi'⟩, c0, c1, c2, c3, c4, c5, c6, c7⟩
theorem VOwn.close_ {w : World} {lo hi : Nat} {a : Addr} {n : Node} {A : Option Addr} {c : Nat} (h : VOwn w lo hi A n c)
    (c0 : w.cell? a = some (.int .i64 n.kind)) (c1 : w.cell? (fld a 1) = some (.string n.text)) (c2 : w.cell? (fld a 2) = some (.int .i64 n.n)) (c3 : w.cell? (fld a 3) = some (.string n.type))
    (c4 : w.cell? (fld a 4) = some (.int .i64 n.slot)) (c5 : w.cell? (fld a 5) = some (.int .i64 n.at_)) (c6 : w.cell? (fld a 6) = some (.int .i64 n.line)) (c7 : w.cell? (fld a 7) = some (.slice A n.kids.length c)) : NodeOwn w lo hi a n := by
  obtain ⟨⟨hc, hc', hcc, nil, row, s, e, in_, apart, off, kids⟩, ht, ht', hi'⟩ := h
  exact .mk _ _ _ _ A c s e ht ht' hi' c0 c1 c2 c3 c4 c5 c6 c7 hc hc' hcc nil row in_ apart off kids
theorem add_block (a : Addr) (k : Nat) : (a.add k).block = a.block := by unfold Addr.add; split <;> rfl
theorem fld_block (a : Addr) (k : Nat) : (fld a k).block = a.block := rfl
theorem NodeOwn.frame {w : World} {lo hi : Nat} {a : Addr} {n : Node} (h : NodeOwn w lo hi a n) : ∀ {w' : World} {lo' hi' : Nat}, w'.heap[a.block]? = w.heap[a.block]? → (∀ g, lo ≤ g → g < hi → w'.heap[g]? = w.heap[g]?) → lo' ≤ lo → hi ≤ hi' → NodeOwn w' lo' hi' a n := by
  induction h with
  | mk lo hi a n A c s e ht ht' hi' c0 c1 c2 c3 c4 c5 c6 c7 hc hc' hcc nil row in_ apart off kids ih =>
    intro w' lo' hi'' ha hw hlo hhi
    have cc : ∀ k v, w.cell? (fld a k) = some v → w'.cell? (fld a k) = some v := fun k v hv => (World.cell?_of_block (a := fld a k) ha).trans hv
    refine .mk _ _ _ _ A c s e ht ht' hi' ((World.cell?_of_block ha).trans c0) (cc 1 _ c1) (cc 2 _ c2) (cc 3 _ c3) (cc 4 _ c4) (cc 5 _ c5) (cc 6 _ c6) (cc 7 _ c7) hc hc' hcc nil ?_ (fun j hj => ?_) apart off (fun ad hA j hj => ?_)
    · intro ad hA
      obtain ⟨g, h1, h2, h3, cs, h4, h5⟩ := row ad hA
      exact ⟨g, h1, by omega, by omega, cs, (hw g h2 h3).trans h4, h5⟩
    · have := in_ j hj
      omega
    · have h1 := in_ j hj
      obtain ⟨g, h1', h2, h3, _⟩ := row ad hA
      refine ih ad hA j hj ?_ (fun g hg hg' => hw g (by omega) (by omega)) (Nat.le_refl _) (Nat.le_refl _)
      rw [add_block, h1']
      exact hw g h2 h3
theorem KidsOwn.frame {w w' : World} {lo hi lo' hi' : Nat} {A : Option Addr} {l : List Node} {c : Nat} (h : KidsOwn w lo hi A l c) (hw : ∀ g, lo ≤ g → g < hi → w'.heap[g]? = w.heap[g]?) (hlo : lo' ≤ lo) (hhi : hi ≤ hi') : KidsOwn w' lo' hi' A l c := by
  obtain ⟨hc, hc', hcc, nil, row, s, e, in_, apart, off, kids⟩ := h
  refine ⟨hc, hc', hcc, nil, ?_, s, e, fun j hj => by have := in_ j hj; omega, apart, off, fun ad hA j hj => ?_⟩
  · intro ad hA
    obtain ⟨g, h1, h2, h3, cs, h4, h5⟩ := row ad hA
    exact ⟨g, h1, by omega, by omega, cs, (hw g h2 h3).trans h4, h5⟩
  · have h1 := in_ j hj
    obtain ⟨g, h1', h2, h3, _⟩ := row ad hA
    refine (kids ad hA j hj).frame ?_ (fun g hg hg' => hw g (by omega) (by omega)) (Nat.le_refl _) (Nat.le_refl _)
    rw [add_block, h1']
    exact hw g h2 h3
theorem VOwn.frame {w w' : World} {lo hi lo' hi' : Nat} {A : Option Addr} {n : Node} {c : Nat} (h : VOwn w lo hi A n c) (hw : ∀ g, lo ≤ g → g < hi → w'.heap[g]? = w.heap[g]?) (hlo : lo' ≤ lo) (hhi : hi ≤ hi') : VOwn w' lo' hi' A n c :=
  ⟨h.kids.frame hw hlo hhi, h.ht, h.ht', h.hi'⟩
theorem NodeOwn.at_ {w : World} {lo hi : Nat} {a : Addr} {n : Node} (h : NodeOwn w lo hi a n) : ∀ {B : Nat}, a.block < B → hi ≤ B → NodeAt w B a n := by
  induction h with
  | mk lo hi a n A c s e ht ht' hi' c0 c1 c2 c3 c4 c5 c6 c7 hc hc' hcc nil row in_ apart off kids ih =>
    intro B ha hB
    refine .mk a n A c ha ht ht' hi' c0 c1 c2 c3 c4 c5 c6 c7 hc hc' hcc (fun h0 => ?_) (fun ad hA j hj => ?_)
    · cases A with
      | none => rw [(nil rfl).1] at h0; exact absurd h0 (by simp)
      | some ad => exact ⟨ad, rfl⟩
    · obtain ⟨g, h1', h2, h3, _⟩ := row ad hA
      have := in_ j hj
      exact ih ad hA j hj (by rw [add_block, h1']; show g < B; omega) (by omega)
theorem KidsOwn.at_ {w : World} {lo hi : Nat} {A : Option Addr} {l : List Node} {c : Nat} (h : KidsOwn w lo hi A l c) {B : Nat} (hB : hi ≤ B) : KidsAt w B A l c := by
  obtain ⟨hc, hc', hcc, nil, row, s, e, in_, apart, off, kids⟩ := h
  refine ⟨hc, hc', hcc, fun h0 => ?_, fun ad hA j hj => ?_⟩
  · cases A with
    | none => rw [(nil rfl).1] at h0; exact absurd h0 (by simp)
    | some ad => exact ⟨ad, rfl⟩
  · obtain ⟨g, h1', h2, h3, _⟩ := row ad hA
    have := in_ j hj
    exact (kids ad hA j hj).at_ (by rw [add_block, h1']; show g < B; omega) (by omega)
theorem VOwn.val {w : World} {lo hi : Nat} {A : Option Addr} {n : Node} {c : Nat} (h : VOwn w lo hi A n c) {B : Nat} (hB : hi ≤ B) : ValAt w B A n c := ⟨h.kids.at_ hB, h.ht, h.ht', h.hi'⟩
/-- A row's nodes with the slices of their kids. -/
abbrev Vn := Node × Option Addr × Nat
def cellsV (t : Vn) : List Value := (nodeV t.1 t.2.1 t.2.2).toList
theorem cellsV_len (t : Vn) : (cellsV t).length = 8 := rfl
def flatV (x : List Vn) : List Value := x.flatMap cellsV
theorem flatV_len (x : List Vn) : (flatV x).length = x.length * 8 := by
  induction x with
  | nil => rfl
  | cons t r ih =>
    show (cellsV t ++ flatV r).length = _
    rw [List.length_append, ih, cellsV_len, List.length_cons]
    omega
theorem flatV_snoc (x : List Vn) (t : Vn) : flatV (x ++ [t]) = flatV x ++ cellsV t := by simp [flatV]
theorem flatV_at (x : List Vn) (j i : Nat) (h : j < x.length) (hi : i < 8) : (flatV x)[j * 8 + i]? = (cellsV x[j])[i]? := by
  induction x generalizing j with
  | nil => exact absurd h (by simp)
  | cons t r ih =>
    show (cellsV t ++ flatV r)[j * 8 + i]? = _
    cases j with
    | zero =>
      rw [List.getElem?_append_left (by rw [cellsV_len]; omega)]
      simp
    | succ j =>
      rw [List.getElem?_append_right (by rw [cellsV_len]; omega), cellsV_len, show (j + 1) * 8 + i - 8 = j * 8 + i from by omega]
      simp only [List.getElem_cons_succ]
      exact ih j (by simpa using h)
/-- A slice of nodes that a program builds: from L on, all its own. -/
structure BuiltX (w : World) (L : Nat) (v : Value) (x : List Vn) : Prop where
  own : w.ownsRow L 25 8 v x.length (flatV x)
  kids : ∃ (s e : Nat → Nat), (∀ j, j < x.length → L ≤ s j ∧ s j ≤ e j ∧ e j ≤ w.heap.size) ∧
    (∀ j k, j < k → k < x.length → e j ≤ s k ∨ e k ≤ s j) ∧ (∀ g, v.ownBlock = some g → ∀ j, j < x.length → ¬ (s j ≤ g ∧ g < e j)) ∧ ∀ j (h : j < x.length), VOwn w (s j) (e j) x[j].2.1 x[j].1 x[j].2.2
def Built (w : World) (L : Nat) (v : Value) (l : List Node) : Prop := ∃ x : List Vn, BuiltX w L v x ∧ x.map (·.1) = l
theorem BuiltX.none_ (w : World) (L : Nat) : BuiltX w L (.slice none 0 0) [] :=
  ⟨w.ownsRow_nil _ _ _, fun _ => 0, fun _ => 0, fun j h => absurd h (by simp), fun j k _ h => absurd h (by simp), fun _ h => by simp [Value.ownBlock] at h, fun j h => absurd h (by simp)⟩
theorem Built.none_ (w : World) (L : Nat) : Built w L (.slice none 0 0) [] := ⟨[], BuiltX.none_ w L, rfl⟩
theorem BuiltX.lt {w : World} {L : Nat} {v : Value} {x : List Vn} (h : BuiltX w L v x) : ∀ g, v.ownBlock = some g → L ≤ g ∧ g < w.heap.size := h.own.lt
/-- What else is done, but for the row and the kids' blocks. -/
theorem BuiltX.frame {w w' : World} {L : Nat} {v : Value} {x : List Vn} (h : BuiltX w L v x) (hw : ∀ g, L ≤ g → g < w.heap.size → w'.heap[g]? = w.heap[g]?) (hs : w.heap.size ≤ w'.heap.size) : BuiltX w' L v x := by
  obtain ⟨hown, s, e, hin, hap, hoff, hv⟩ := h
  refine ⟨⟨hown.1, ?_⟩, s, e, fun j hj => by have := hin j hj; omega, hap, hoff, fun j hj => (hv j hj).frame (fun g h1 h2 => by have := hin j hj; exact hw g (by omega) (by omega)) (Nat.le_refl _) (Nat.le_refl _)⟩
  rcases hown.2 with h0 | ⟨g, cap, cur, rfl, hb, hg, rest⟩
  · exact .inl h0
  · exact .inr ⟨g, cap, cur, rfl, hb, (hw g hb ((Array.getElem?_eq_some_iff.1 hg).1)).trans hg, rest⟩
/-- One node more, by append's law: w0 the world when the kid was begun, w that of the append. -/
theorem BuiltX.push {w w0 w' : World} {L : Nat} {v : Value} {x : List Vn} {A : Option Addr} {n : Node} {c sn en g cap H : Nat} (h : BuiltX w0 L v x) (hv : VOwn w sn en A n c)
    (h0 : w0.heap.size ≤ sn) (h1 : sn ≤ en) (h2 : en ≤ w.heap.size) (hL : L ≤ w0.heap.size) (hw : ∀ g, L ≤ g → g < w0.heap.size → w.heap[g]? = w0.heap[g]?) (hH : w.heap.size ≤ H)
    (hgr : w.grownBy w' v.ownBlock) (hown : w'.ownsRow L 25 8 (.slice (some ⟨g, 0, none⟩) (x.length + 1) cap) (x.length + 1) (flatV x ++ cellsV (n, A, c))) (hg : v.ownBlock = some g ∨ g = H) :
    BuiltX w' L (.slice (some ⟨g, 0, none⟩) (x.length + 1) cap) (x ++ [(n, A, c)]) := by
  obtain ⟨hown0, s, e, hin, hap, hoff, hvs⟩ := h
  have hw2 := hgr.block
  have hsz := hgr.size
  have hH' := (hown.lt g rfl).2
  refine ⟨?_, fun j => if j < x.length then s j else sn, fun j => if j < x.length then e j else en, ?_, ?_, ?_, ?_⟩
  · rw [flatV_snoc, List.length_append]
    exact hown
  · intro j hj
    by_cases hjx : j < x.length
    · simp only [if_pos hjx]
      have := hin j hjx
      omega
    · simp only [if_neg hjx]
      omega
  · intro j k hjk hk
    rw [List.length_append, List.length_singleton] at hk
    have hjx : j < x.length := by omega
    by_cases hkx : k < x.length
    · simp only [if_pos hjx, if_pos hkx]
      exact hap j k hjk hkx
    · simp only [if_pos hjx, if_neg hkx]
      have := hin j hjx
      omega
  · intro g' hg' j hj hbad
    simp only [Value.ownBlock, Option.some.injEq] at hg'
    subst hg'
    by_cases hjx : j < x.length
    · simp only [if_pos hjx] at hbad
      have hj1 := hin j hjx
      rcases hg with hg | hg
      · exact hoff g hg j hjx hbad
      · omega
    · simp only [if_neg hjx] at hbad
      rcases hg with hg | hg
      · have := (hown0.lt g hg).2
        omega
      · omega
  · intro j hj
    rw [List.length_append, List.length_singleton] at hj
    by_cases hjx : j < x.length
    · simp only [if_pos hjx, List.getElem_append_left hjx]
      have hj1 := hin j hjx
      have hz : w0.heap.size ≤ w.heap.size := by omega
      refine (hvs j hjx).frame (fun g' h3 h4 => ?_) (Nat.le_refl _) (Nat.le_refl _)
      refine (hw2 g' (by omega) (fun e' => hoff g' e'.symm j hjx ⟨h3, h4⟩)).trans (hw g' (by omega) (by omega))
    · have hj2 : j = x.length := by omega
      subst hj2
      simp only [Nat.lt_irrefl, if_false, List.getElem_append_right (Nat.le_refl _), Nat.sub_self, List.getElem_singleton]
      refine hv.frame (fun g' h3 h4 => hw2 g' (by omega) (fun e' => ?_)) (Nat.le_refl _) (Nat.le_refl _)
      have := (hown0.lt g' e'.symm).2
      omega
theorem add_of (g k : Nat) : (⟨g, 0, none⟩ : Addr).add k = ⟨g, k, none⟩ := by unfold Addr.add; split <;> simp_all
theorem Built.kids {w : World} {L : Nat} {v : Value} {l : List Node} (h : Built w L v l) (hl : l.length ≤ 1048576) : ∃ A c, v = .slice A l.length c ∧ KidsOwn w L w.heap.size A l c := by
  obtain ⟨x, ⟨hown, s, e, hin, hap, hoff, hvs⟩, rfl⟩ := h
  rw [List.length_map] at hl
  rcases hown.2 with ⟨rfl, h0⟩ | ⟨g, cap, cur, rfl, hb, hg, hc1, hc2, hc3, hc4⟩
  · have hx : x = [] := List.eq_nil_of_length_eq_zero h0
    subst hx
    exact ⟨none, 0, rfl, ⟨by simp, by simp, by omega, fun _ => ⟨rfl, rfl⟩, fun ad h => (nomatch h), s, e, fun j hj => absurd hj (by simp), fun j k _ hk => absurd hk (by simp), fun ad h => (nomatch h), fun ad h => (nomatch h)⟩⟩
  · have hgz := (Array.getElem?_eq_some_iff.1 hg).1
    refine ⟨some ⟨g, 0, none⟩, cap, by rw [List.length_map], ⟨by rw [List.length_map]; exact hc1, by rw [List.length_map]; exact hl, by unfold maxLen at hc2; omega, fun h => (nomatch h), fun ad hA => ?_, s, e, ?_, ?_, ?_, ?_⟩⟩
    · injection hA with hA
      exact ⟨g, hA.symm, hb, hgz, cur, hg, hc3⟩
    · intro j hj
      rw [List.length_map] at hj
      exact hin j hj
    · intro j k hjk hk
      rw [List.length_map] at hk
      exact hap j k hjk hk
    · intro ad hA j hj
      rw [List.length_map] at hj
      injection hA with hA
      subst hA
      exact hoff g rfl j hj
    · intro ad hA j hj
      rw [List.length_map] at hj
      injection hA with hA
      subst hA
      have hcell : ∀ i, i < 8 → w.cell? ⟨g, j * 8 + i, none⟩ = (cellsV x[j])[i]? := fun i hi => by
        have h1 := flatV_at x j i hj hi
        have h2 : (cellsV x[j])[i]? = some ((cellsV x[j])[i]'(by rw [cellsV_len]; exact hi)) := List.getElem?_eq_getElem _
        have h3 := hown.cells (g := g) rfl (j * 8 + i) _ (h1.trans h2)
        rw [add_of] at h3
        exact h3.trans h2.symm
      rw [List.getElem_map]
      have hA' : (⟨g, 0, none⟩ : Addr).add (j * 8) = ⟨g, j * 8, none⟩ := add_of g (j * 8)
      rw [hA']
      exact (hvs j hj).close_ (hcell 0 (by omega)) (hcell 1 (by omega)) (hcell 2 (by omega)) (hcell 3 (by omega)) (hcell 4 (by omega)) (hcell 5 (by omega)) (hcell 6 (by omega)) (hcell 7 (by omega))
end Go.Proofs.YtjdeomenioagdaaGreatDoor
