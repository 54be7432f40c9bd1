/- What is taken off by Bare does not count; to be the same goes both ways. Plain Lean. -/
import Derived.Test.YtjdeomenioagdaaGreatDoorBare
import Derived.Test.YtjdeomenioagdaaGreatDoorWtext
import Derived.Test.YtjdeomenioagdaaGreatDoorSame
set_option linter.unusedVariables false
set_option linter.unusedSimpArgs false
namespace Go.Proofs.YtjdeomenioagdaaGreatDoor
theorem bk (n : Node) : (bareN n).kind = n.kind := by rw [bareN_eq]
theorem bt (n : Node) : (bareN n).text = n.text := by rw [bareN_eq]
theorem bn (n : Node) : (bareN n).n = n.n := by rw [bareN_eq]
theorem by_ (n : Node) : (bareN n).type = if marksB n.kind then .empty else n.type := by rw [bareN_eq]
theorem bks (n : Node) : (bareN n).kids = n.kids.map bareN := by rw [bareN_eq]
theorem empty_list : ByteArray.empty.toList = [] := by rw [data_list]; rfl
/-- By the nodes' sizes. -/
theorem node_ind {P : Node → Prop} (h : ∀ n, (∀ k ∈ n.kids, P k) → P n) : ∀ n, P n := by
  have : ∀ m n, n.size ≤ m → P n := by
    intro m
    induction m with
    | zero => intro n hn; exact absurd n.size_pos (by omega)
    | succ m ih => intro n hn; exact h n (fun k hk => ih k (by have := Node.size_kid hk; omega))
  exact fun n => this n.size n (Nat.le_refl _)
theorem samesB_iff : ∀ (l r : List Node), samesB l r = true ↔ l.length = r.length ∧ ∀ i (h : i < l.length) (h' : i < r.length), sameB l[i] r[i] = true
  | [], [] => by simp [samesB]
  | [], b :: s => by simp [samesB]
  | a :: l, [] => by simp [samesB]
  | a :: l, b :: s => by
    rw [samesB, Bool.and_eq_true, samesB_iff l s]
    simp only [List.length_cons, Nat.add_right_cancel_iff]
    constructor
    · rintro ⟨h1, h2, h3⟩
      refine ⟨h2, fun i h h' => ?_⟩
      cases i with
      | zero => exact h1
      | succ i => exact h3 i (by omega) (by omega)
    · rintro ⟨h1, h2⟩
      exact ⟨h2 0 (by omega) (by omega), h1, fun i h h' => h2 (i + 1) (by omega) (by omega)⟩
theorem samesB_congr {l r l' r' : List Node} (h1 : l.length = l'.length) (h2 : r.length = r'.length) (h : ∀ i (a : i < l.length) (b : i < r.length) (a' : i < l'.length) (b' : i < r'.length), sameB l[i] r[i] = sameB l'[i] r'[i]) : samesB l r = samesB l' r' := by
  rw [Bool.eq_iff_iff, samesB_iff, samesB_iff]
  constructor
  · rintro ⟨q1, q2⟩
    exact ⟨by omega, fun i a b => by rw [← h i (by omega) (by omega) a b]; exact q2 i (by omega) (by omega)⟩
  · rintro ⟨q1, q2⟩
    exact ⟨by omega, fun i a b => by rw [h i a b (by omega) (by omega)]; exact q2 i (by omega) (by omega)⟩
theorem same_bare : ∀ a b, sameB (bareN a) (bareN b) = sameB a b := by
  refine node_ind (fun a ih b => ?_)
  rw [sameB_eq, sameB_eq, bk, bk, bt, bt, bn, bn, by_, by_, bks, bks]
  have hk : samesB (a.kids.map bareN) (b.kids.map bareN) = samesB a.kids b.kids := by
    refine samesB_congr (by simp) (by simp) (fun i h1 h2 h3 h4 => ?_)
    simp only [List.getElem_map]
    exact ih _ (List.getElem_mem _) _
  rw [hk]
  by_cases q : a.kind = b.kind
  · rw [q]
    cases marksB b.kind <;> simp
  · rw [show (a.kind == b.kind) = false from beq_eq_false_iff_ne.2 q]
    rfl
theorem same_symm : ∀ a b, sameB a b = sameB b a := by
  refine node_ind (fun a ih b => ?_)
  rw [sameB_eq, sameB_eq]
  have hk : samesB a.kids b.kids = samesB b.kids a.kids := by
    rw [Bool.eq_iff_iff, samesB_iff, samesB_iff]
    constructor
    · rintro ⟨q1, q2⟩
      exact ⟨by omega, fun i h h' => by rw [← ih _ (List.getElem_mem _)]; exact q2 i h' h⟩
    · rintro ⟨q1, q2⟩
      exact ⟨by omega, fun i h h' => by rw [ih _ (List.getElem_mem _)]; exact q2 i h' h⟩
  rw [hk]
  by_cases q : a.kind = b.kind
  · rw [q, BEq.comm (a := a.text.toList), BEq.comm (a := a.n), BEq.comm (a := a.type.toList)]
  · have q' : ¬ b.kind = a.kind := fun h => q h.symm
    rw [show (a.kind == b.kind) = false from beq_eq_false_iff_ne.2 q, show (b.kind == a.kind) = false from beq_eq_false_iff_ne.2 q']
    rfl
theorem same_self : ∀ a, sameB a a = true := by
  refine node_ind (fun a ih => ?_)
  rw [sameB_eq]
  have hk : samesB a.kids a.kids = true := by
    rw [samesB_iff]
    exact ⟨rfl, fun i h _ => ih _ (List.getElem_mem _)⟩
  simp [hk]
theorem same_own : ∀ a, sameB a (bareN a) = true := by
  refine node_ind (fun a ih => ?_)
  rw [sameB_eq, bk, bt, bn, by_, bks]
  have hk : samesB a.kids (a.kids.map bareN) = true := by
    rw [samesB_iff]
    refine ⟨by simp, fun i h _ => ?_⟩
    rw [List.getElem_map]
    exact ih _ (List.getElem_mem _)
  rw [hk]
  cases marksB a.kind <;> simp
theorem same_own' (a : Node) : sameB (bareN a) a = true := by rw [same_symm]; exact same_own a
/- Right. -/
theorem bareB_bare (n : Node) (t y u : Bool) : bareB (bareN n) t y u = bareB n t y u := by
  unfold bareB
  rw [bk, bt, bn, by_]
  cases marksB n.kind <;> simp
theorem empty_map (l : List Node) : (l.map bareN).isEmpty = l.isEmpty := by cases l <;> rfl
theorem leafB_bare (n : Node) : leafB (bareN n) = leafB n := by
  unfold leafB
  simp only [bareB_bare, bk, bt, bn, bks, empty_map]
theorem recvB_bare (n : Node) : recvB (bareN n) = recvB n := by unfold recvB; rw [bk, bt]
theorem all_map (l : List Node) (p : Node → Bool) : (l.map bareN).all p = l.all (fun k => p (bareN k)) := by rw [List.all_map]; rfl
theorem any_map (l : List Node) (p : Node → Bool) : (l.map bareN).any p = l.any (fun k => p (bareN k)) := by rw [List.any_map]; rfl
theorem all_congr {l : List Node} {p q : Node → Bool} (h : ∀ k ∈ l, p k = q k) : l.all p = l.all q := by
  rw [Bool.eq_iff_iff, List.all_eq_true, List.all_eq_true]
  exact ⟨fun a k hk => by rw [← h k hk]; exact a k hk, fun a k hk => by rw [h k hk]; exact a k hk⟩
theorem type_make {n : Node} (h : marksB n.kind = false) : (bareN n).type = n.type := by rw [by_, h]; rfl
theorem itemB_bare (texts : Bool) (k : Node) (h : exprB (bareN k) = exprB k) : itemB texts (bareN k) = itemB texts k := by
  unfold itemB
  rw [bk, bn, bks, empty_map, h]
  by_cases q : k.kind = 25
  · rw [type_make (by rw [q]; decide)]
  · have : (texts && k.kind == 25) = false := by simp [q]
    simp only [this]
    rfl
theorem exprsB_bare (texts : Bool) (l : List Node) (h : ∀ k ∈ l, exprB (bareN k) = exprB k) : exprsB texts (l.map bareN) = exprsB texts l := by
  rw [exprsB_all, exprsB_all, all_map]
  exact all_congr (fun k hk => itemB_bare texts k (h k hk))
theorem exprB_bare : ∀ n, exprB (bareN n) = exprB n := by
  refine node_ind (fun n ih => ?_)
  rw [exprB_eq, exprB_eq]
  unfold callB
  simp only [bareB_bare, leafB_bare, bk, bt, bks, List.length_map]
  rw [exprsB_bare _ _ ih, exprsB_bare _ _ ih]
  by_cases q : n.kind = 29
  · rw [type_make (by rw [q]; decide)]
  · simp [q]
theorem exprsB_bare' (texts : Bool) (l : List Node) : exprsB texts (l.map bareN) = exprsB texts l := exprsB_bare texts l (fun k _ => exprB_bare k)
theorem callB_bare (n : Node) : callB (bareN n) = callB n := by
  unfold callB
  rw [bareB_bare, bt, bks, exprsB_bare']
theorem targetB_bare (n : Node) : targetB (bareN n) = targetB n := by
  unfold targetB
  rw [bareB_bare, bk, bt, bks, empty_map]
theorem kidB_bare (n : Node) (i : Nat) (p : Node → Bool) : kidB (bareN n) i p = kidB n i (fun k => p (bareN k)) := by
  unfold kidB
  rw [bks, List.getElem?_map]
  cases n.kids[i]? <;> rfl
theorem all_targets (l : List Node) (v : Nat) : ((l.map bareN).take v).all targetB = (l.take v).all targetB := by
  rw [← List.map_take, all_map]
  exact all_congr (fun k _ => targetB_bare k)
theorem any_blank (l : List Node) (v : Nat) : ((l.map bareN).take v).any (fun k => !isT k.text [95]) = (l.take v).any (fun k => !isT k.text [95]) := by
  rw [← List.map_take, any_map]
  simp only [bt]
theorem letsB_bare (n : Node) : letsB (bareN n) = letsB n := by
  unfold letsB
  simp only [bareB_bare, bk, bn, bks, List.length_map, all_targets, any_blank, kidB_bare, exprB_bare, recvB_bare]
theorem simpleB_bare (n : Node) : simpleB (bareN n) = simpleB n := by
  unfold simpleB
  simp only [letsB_bare, bareB_bare, bk, bn, bks, List.length_map, exprsB_bare', kidB_bare, exprB_bare, recvB_bare, leafB_bare]
theorem nothingB_bare (n : Node) : nothingB (bareN n) = nothingB n := by
  unfold nothingB
  rw [bareB_bare, bk, bks, empty_map]
theorem loopB_bare (n : Node) : loopB (bareN n) = loopB n := by
  unfold loopB
  simp only [bn, bt, bk, kidB_bare, exprB_bare, simpleB_bare, nothingB_bare, leafB_bare]
theorem commB_bare (n : Node) : commB (bareN n) = commB n := by
  unfold commB
  rw [simpleB_bare, bk, bks, List.getLast?_map]
  cases h : n.kids.getLast? with
  | none => rfl
  | some k => simp [recvB_bare]
theorem drop_last_map (l : List Node) : (l.map bareN).dropLast = l.dropLast.map bareN := by rw [List.map_dropLast]
theorem clauseB_bare (kd : Int) (n : Node) : clauseB kd (bareN n) = clauseB kd n := by
  unfold clauseB
  simp only [bareB_bare, bk, bn, bks, List.length_map, drop_last_map, exprsB_bare', kidB_bare, commB_bare]
theorem defaults_bare (l : List Node) : defaults (l.map bareN) = defaults l := by
  unfold defaults
  rw [List.map_map]
  congr 1
  exact List.map_congr_left (fun k _ => bn k)
theorem lastB_bare (l : List Node) (h : ∀ k ∈ l, stmtB (bareN k) = stmtB k) : lastB (l.map bareN) = lastB l := by
  rw [lastB_eq, lastB_eq, List.getLast?_map]
  cases q : l.getLast? with
  | none => rfl
  | some k => simp [blockB, bk, h k (List.mem_of_getLast? q)]
theorem stmtsB_bare (l : List Node) (h : ∀ k ∈ l, stmtB (bareN k) = stmtB k) : stmtsB (l.map bareN) = stmtsB l := by
  rw [stmtsB_all, stmtsB_all, all_map]
  exact all_congr h
theorem ifB_bare (l : List Node) (h : ∀ k ∈ l, stmtB (bareN k) = stmtB k) : ifB (l.map bareN) = ifB l := by
  match l, h with
  | [], _ => rfl
  | [_], _ => rfl
  | [c, t], h => simp only [List.map_cons, List.map_nil, ifB, exprB_bare, bk, h t (by simp)]
  | [c, t, e], h => simp only [List.map_cons, List.map_nil, ifB, exprB_bare, bk, h t (by simp), h e (by simp)]
  | _ :: _ :: _ :: _ :: _, _ => rfl
theorem lastsB_bare (l : List Node) (h : ∀ k ∈ l, lastB (k.kids.map bareN) = lastB k.kids) : lastsB (l.map bareN) = lastsB l := by
  rw [lastsB_all, lastsB_all, all_map]
  exact all_congr (fun k hk => by rw [bks]; exact h k hk)
theorem node_ind2 {P : Node → Prop} (h : ∀ n, (∀ k ∈ n.kids, P k) → (∀ k ∈ n.kids, ∀ j ∈ k.kids, P j) → P n) : ∀ n, P n := by
  have : ∀ n, P n ∧ ∀ k ∈ n.kids, P k := node_ind (fun n ih => by
    have h1 : ∀ k ∈ n.kids, P k := fun k hk => (ih k hk).1
    exact ⟨h n h1 (fun k hk => (ih k hk).2), h1⟩)
  exact fun n => (this n).1
theorem stmtB_bare : ∀ n, stmtB (bareN n) = stmtB n := by
  refine node_ind2 (fun n ih ih2 => ?_)
  have hl := lastB_bare n.kids ih
  have hls : lastsB (n.kids.map bareN) = lastsB n.kids := lastsB_bare _ (fun k hk => lastB_bare _ (ih2 k hk))
  rw [stmtB_eq, stmtB_eq]
  simp only [bareB_bare, bk, bt, bn, bks, List.length_map, exprsB_bare', stmtsB_bare _ ih, ifB_bare _ ih, hl, hls, loopB_bare, simpleB_bare, empty_map, kidB_bare, callB_bare, ← List.map_take, ← List.map_drop, all_map, clauseB_bare, defaults_bare]
  have hr : ∀ x r, n.kids = x :: r → lastsB (r.map bareN) = lastsB r := fun x r q => lastsB_bare r (fun k hk => lastB_bare _ (ih2 k (by rw [q]; exact List.mem_cons_of_mem _ hk)))
  have h29 : n.kind = 5 → (bareN n).type = n.type := fun q => type_make (by rw [q]; decide)
  by_cases q : n.kind = 5
  · rw [h29 q]
    simp [q]
  · rcases hq : n.kids with _ | ⟨x, r⟩
    · simp [q]
    · simp only [List.map_cons, hr x r hq]
      simp [q]
theorem paramB_bare (k : Node) : paramB (bareN k) = paramB k := by
  unfold paramB
  rw [bareB_bare, bk, bt, bks, empty_map]
  by_cases q : k.kind = 3
  · rw [type_make (by rw [q]; decide)]
  · rw [show (k.kind == 3) = false from beq_eq_false_iff_ne.2 q]
    simp only [Bool.false_and]
theorem funcB_bare (n : Node) : funcB (bareN n) = funcB n := by
  unfold funcB
  simp only [bareB_bare, bk, bt, bks, List.length_map, drop_last_map, all_map, paramB_bare]
  rw [lastB_bare _ (fun k _ => stmtB_bare k)]
  by_cases q : n.kind = 2
  · rw [type_make (by rw [q]; decide)]
  · rw [show (n.kind == 2) = false from beq_eq_false_iff_ne.2 q]
    simp only [Bool.false_and]
theorem depthsD_bare (l : List Node) (h : ∀ k ∈ l, ∀ m, depthD (bareN k) m = depthD k m) : ∀ m d, depthsD (l.map bareN) m d = depthsD l m d := by
  induction l with
  | nil => intro m d; rfl
  | cons k r ih =>
    intro m d
    simp only [List.map_cons, depthsD]
    rw [h k (by simp), ih (fun j hj => h j (by simp [hj]))]
theorem depthD_bare : ∀ n m, depthD (bareN n) m = depthD n m := by
  refine node_ind (fun n ih m => ?_)
  rw [depthD_eq, depthD_eq, bks, depthsD_bare _ ih]
theorem countsD_bare (l : List Node) (h : ∀ k ∈ l, ∀ m, countD (bareN k) m = countD k m) : ∀ m d, countsD (l.map bareN) m d = countsD l m d := by
  induction l with
  | nil => intro m d; rfl
  | cons k r ih =>
    intro m d
    simp only [List.map_cons, countsD]
    rw [h k (by simp), ih (fun j hj => h j (by simp [hj]))]
theorem countD_bare : ∀ n m, countD (bareN n) m = countD n m := by
  refine node_ind (fun n ih m => ?_)
  rw [countD_eq, countD_eq, bks, countsD_bare _ ih]
theorem rightD_bare (n : Node) : rightD (bareN n) = rightD n := by
  unfold rightD
  rw [depthD_bare, bareB_bare, bk, bks, all_map]
  simp only [funcB_bare]
/- The text. -/
theorem kindAt_bare (l : List Node) (i : Nat) : kindAt (l.map bareN) i = kindAt l i := by
  unfold kindAt
  rw [List.getElem?_map]
  cases l[i]? <;> simp [bk]
theorem textAt_bare (l : List Node) (i : Nat) : textAt (l.map bareN) i = textAt l i := by
  unfold textAt
  rw [List.getElem?_map]
  cases l[i]? <;> simp [bt]
theorem map_bare {β : Type} (l : List Node) (f : Node → β) (h : ∀ k ∈ l, f (bareN k) = f k) : (l.map bareN).map f = l.map f := by
  rw [List.map_map]
  exact List.map_congr_left h
theorem toldS_bare : ∀ n, toldS (bareN n) = toldS n := by
  refine node_ind (fun n ih => ?_)
  have h1 : (n.kids.map bareN).map toldS = n.kids.map toldS := map_bare _ _ ih
  have h2 : listS (n.kids.map bareN) = listS n.kids := by unfold listS; rw [h1]
  have h3 : listS (n.kids.map bareN).tail = listS n.kids.tail := by
    unfold listS
    rw [List.map_tail, List.map_tail, h1]
  rw [toldS_eq, toldS_eq]
  simp only [bk, bt, bn, bks, kindAt_bare, textAt_bare, h1, h2, h3, List.length_map]
  by_cases q : n.kind = 29
  · rw [type_make (by rw [q]; decide)]
  · simp [q]
theorem tolds_bare (l : List Node) : (l.map bareN).map toldS = l.map toldS := map_bare _ _ (fun k _ => toldS_bare k)
theorem listS_bare (l : List Node) : listS (l.map bareN) = listS l := by unfold listS; rw [tolds_bare]
theorem shortS_bare (n : Node) : shortS (bareN n) = shortS n := by
  unfold shortS
  simp only [bk, bn, bks, ← List.map_take, listS_bare, tolds_bare, textAt_bare]
theorem shortAt_bare (l : List Node) (i : Nat) : shortAt (l.map bareN) i = shortAt l i := by
  unfold shortAt
  rw [List.getElem?_map]
  cases l[i]? <;> simp [shortS_bare]
theorem headS_bare (n : Node) : headS (bareN n) = headS n := by
  unfold headS
  simp only [bn, bt, bks, tolds_bare, shortAt_bare, kindAt_bare, textAt_bare]
theorem choiceS_bare (n : Node) : choiceS (bareN n) = choiceS n := by
  unfold choiceS
  simp only [bk, bn, bks, drop_last_map, listS_bare, shortAt_bare]
theorem node_strong {P : Node → Prop} (h : ∀ n, (∀ k : Node, k.size < n.size → P k) → P n) : ∀ n, P n := by
  have : ∀ m n, n.size ≤ m → P n := by
    intro m
    induction m with
    | zero => intro n hn; exact absurd n.size_pos (by omega)
    | succ m ih => intro n hn; exact h n (fun k hk => ih k (by omega))
  exact fun n => this n.size n (Nat.le_refl _)
theorem rowS_bare : ∀ n d, rowS (bareN n) d = rowS n d := by
  refine node_strong (fun n ih d => ?_)
  have key : ∀ k : Node, k.size < n.size → ∀ d, blockS (bareN k) d = blockS k d ∧ bodyS (bareN k) d = bodyS k d := fun k hs d => by
    rw [blockS_eq, blockS_eq, bodyS_eq, bodyS_eq, bks]
    rw [map_bare _ _ (fun j hj => ih j (by have := Node.size_kid hj; omega) (d + 1)), map_bare _ _ (fun j hj => ih j (by have := Node.size_kid hj; omega) d)]
    exact ⟨rfl, rfl⟩
  have ih1 : ∀ d, (n.kids.map bareN).map (rowS · d) = n.kids.map (rowS · d) := fun d => map_bare _ _ (fun k hk => ih k (Node.size_kid hk) d)
  have ihb : ∀ d, (n.kids.map bareN).map (blockS · d) = n.kids.map (blockS · d) := fun d => map_bare _ _ (fun k hk => (key k (Node.size_kid hk) d).1)
  have hc : ∀ d, (n.kids.map bareN).map (clauseS · d) = n.kids.map (clauseS · d) := fun d => by
    refine map_bare _ _ (fun k hk => ?_)
    rw [clauseS_eq, clauseS_eq, choiceS_bare, bks, List.length_map]
    rw [map_bare _ _ (fun j hj => (key j (by have := Node.size_kid hk; have := Node.size_kid hj; omega) (d + 1)).2)]
  rw [rowS_eq, rowS_eq]
  simp only [bk, bt, bn, bks, tolds_bare, headS_bare, shortS_bare, List.length_map, hc, ih1, ihb]
  by_cases q : n.kind = 5
  · rw [type_make (by rw [q]; decide)]
  · simp [q]
theorem blockS_bare (n : Node) (d : Nat) : blockS (bareN n) d = blockS n d := by
  rw [blockS_eq, blockS_eq, bks, map_bare _ _ (fun k _ => rowS_bare k (d + 1))]
theorem blocks_bare (l : List Node) (d : Nat) : (l.map bareN).map (blockS · d) = l.map (blockS · d) := map_bare _ _ (fun k _ => blockS_bare k d)
theorem funcS_bare (f : Node) (h : funcB f = true) : funcS (bareN f) = funcS f := by
  have h2 : f.kind = 2 := by
    simp only [funcB, Bool.and_eq_true, beq_iff_eq] at h
    exact h.1.1.1.1.1.1
  have hp := (func_facts h).2.1
  unfold funcS
  rw [bt, bks, blocks_bare, List.length_map, type_make (by rw [h2]; decide), drop_last_map]
  have : (f.kids.dropLast.map bareN).map paramS = f.kids.dropLast.map paramS := by
    refine map_bare _ _ (fun k hk => ?_)
    have h3 := List.all_eq_true.1 hp k hk
    simp only [paramB, Bool.and_eq_true, beq_iff_eq] at h3
    unfold paramS
    rw [bt, type_make (by rw [h3.1.1.1.1]; decide)]
  rw [this]
theorem textD_bare (n : Node) : textD (bareN n) = textD n := by
  unfold textD
  rw [rightD_bare]
  by_cases h : rightD n = 0
  · rw [if_pos h, if_pos h]
    unfold textS
    rw [bks, map_bare _ _ (fun k hk => funcS_bare k (right_all h k hk))]
  · rw [if_neg h, if_neg h]
theorem sizes_sum (l : List Node) : Node.size.sizes l = (l.map Node.size).sum := by
  induction l with
  | nil => rfl
  | cons a r ih => simp [Node.size.sizes, ih]
theorem size_bare : ∀ n, (bareN n).size = n.size := by
  refine node_ind (fun n ih => ?_)
  rw [size_eq, size_eq, bks, sizes_sum, sizes_sum, List.map_map]
  rw [List.map_congr_left (f := Node.size ∘ bareN) (g := Node.size) (fun k hk => ih k hk)]
theorem textS_bare (n : Node) (h : rightD n = 0) : textS (bareN n) = textS n := by
  have := textD_bare n
  unfold textD at this
  rwa [rightD_bare, if_pos h, if_pos h] at this
end Go.Proofs.YtjdeomenioagdaaGreatDoor
