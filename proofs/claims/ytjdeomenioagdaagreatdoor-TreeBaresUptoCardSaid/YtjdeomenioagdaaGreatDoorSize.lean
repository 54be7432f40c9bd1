/- How long the text of a right tree can be. Plain Lean. -/
import Derived.Test.YtjdeomenioagdaaGreatDoorWtext
import Derived.Test.YtjdeomenioagdaaGreatDoorPure1
set_option linter.unusedVariables false
set_option linter.unusedSimpArgs false
namespace Go.Proofs.YtjdeomenioagdaaGreatDoor
def sumS (l : List ByteArray) : Nat := (l.map ByteArray.size).sum
theorem sumS_cons (a : ByteArray) (l : List ByteArray) : sumS (a :: l) = a.size + sumS l := by simp [sumS]
theorem partsS_sum (l : List ByteArray) : (partsS l).size = sumS l := by
  induction l with
  | nil => rfl
  | cons a r ih => rw [partsS, ByteArray.size_append, ih, sumS_cons]
theorem sum_pre (p : ByteArray) (l : List ByteArray) : sumS (l.map (p ++ ·)) = p.size * l.length + sumS l := by
  induction l with
  | nil => rfl
  | cons a r ih =>
    simp only [List.map_cons, sumS_cons, ih, ByteArray.size_append, List.length_cons, Nat.mul_add, Nat.mul_one]
    omega
theorem joinS_sum (l : List ByteArray) : (joinS l).size ≤ sumS l + 2 * l.length := by
  cases l with
  | nil => simp [joinS]
  | cons a r =>
    have h2 : (str [44, 32]).size = 2 := rfl
    simp only [joinS, ByteArray.size_append, partsS_sum, sum_pre, sumS_cons, h2, List.length_cons]
    omega
mutual
def Node.wt : Node → Nat
  | ⟨_, t, n, y, _, _, _, ks⟩ => t.size + y.size + (intS n).size + 1 + wts ks
def wts : List Node → Nat
  | [] => 0
  | k :: r => k.wt + wts r
end
theorem wt_eq (n : Node) : n.wt = n.text.size + n.type.size + (intS n.n).size + 1 + wts n.kids := by cases n; simp only [Node.wt]
theorem wts_cons (k : Node) (r : List Node) : wts (k :: r) = k.wt + wts r := by simp only [wts]
theorem wts_nil : wts [] = 0 := by simp only [wts]
theorem wts_append (a b : List Node) : wts (a ++ b) = wts a + wts b := by
  induction a with
  | nil => rw [List.nil_append, wts_nil]; omega
  | cons k r ih => rw [List.cons_append, wts_cons, wts_cons, ih]; omega
theorem wt_mem {l : List Node} {k : Node} (h : k ∈ l) : k.wt ≤ wts l := by
  induction l with
  | nil => cases h
  | cons a r ih =>
    rw [wts_cons]
    rcases List.mem_cons.1 h with rfl | h
    · omega
    · have := ih h; omega
theorem wt_kid {n k : Node} (h : k ∈ n.kids) : k.wt < n.wt := by
  have := wt_mem h
  rw [wt_eq n]
  omega
theorem wts_sub (l : List Node) (v : Nat) : wts (l.take v) + wts (l.drop v) = wts l := by rw [← wts_append, List.take_append_drop]
/-- Of the i-th. -/
def atN (l : List Node) (g : Node → Nat) (i : Nat) : Nat := (l[i]?.map g).getD 0
theorem strAt_le {l : List Node} {f : Node → ByteArray} {g : Node → Nat} (h : ∀ k ∈ l, (f k).size ≤ g k) (i : Nat) : (strAt (l.map f) i).size ≤ atN l g i := by
  unfold strAt atN
  rw [List.getElem?_map]
  cases q : l[i]? with
  | none => simp
  | some k => simpa using h k (List.mem_of_getElem? q)
theorem shortAt_str (l : List Node) (i : Nat) : shortAt l i = strAt (l.map shortS) i := by
  unfold shortAt strAt
  rw [List.getElem?_map]
theorem textAt_le {l : List Node} {g : Node → Nat} (h : ∀ k ∈ l, k.text.size ≤ g k) (i : Nat) : (textAt l i).size ≤ atN l g i := by
  unfold textAt atN
  cases q : l[i]? with
  | none => simp
  | some k => simpa using h k (List.mem_of_getElem? q)
theorem atN_two (l : List Node) (c : Nat) : atN l (fun k => c * k.wt) 0 + atN l (fun k => c * k.wt) 1 ≤ c * wts l := by
  match l with
  | [] => simp [atN]
  | [a] => simp only [atN, wts_cons, wts_nil, Nat.mul_add]; simp
  | a :: b :: r => simp only [atN, wts_cons, Nat.mul_add]; simp [Nat.add_assoc]
theorem atN_tail (l : List Node) (c : Nat) : atN l (fun k => c * k.wt) 0 + c * wts l.tail = c * wts l := by
  match l with
  | [] => simp [atN, wts_nil]
  | a :: r => simp only [atN, wts_cons, Nat.mul_add, List.tail_cons]; simp
theorem atN_v (l : List Node) (c v : Nat) : c * wts (l.take v) + atN l (fun k => c * k.wt) v ≤ c * wts l := by
  have h := wts_sub l v
  unfold atN
  cases q : l[v]? with
  | none =>
    have := Nat.mul_le_mul_left c (show wts (l.take v) ≤ wts l from by omega)
    simpa using this
  | some k =>
    have hv : v < l.length := (List.getElem?_eq_some_iff.1 q).1
    have hk : l[v] = k := (List.getElem?_eq_some_iff.1 q).2
    rw [List.drop_eq_getElem_cons hv, hk, wts_cons] at h
    simp only [Option.map_some, Option.getD_some]
    rw [← h, Nat.mul_add, Nat.mul_add]
    omega
theorem sum_told (l : List Node) (h : ∀ k ∈ l, (toldS k).size + 2 ≤ 40 * k.wt) : sumS (l.map toldS) + 2 * l.length ≤ 40 * wts l := by
  induction l with
  | nil => simp [sumS]
  | cons a r ih =>
    have h1 := h a (by simp)
    have h2 := ih (fun k hk => h k (by simp [hk]))
    rw [List.map_cons, sumS_cons, wts_cons, List.length_cons]
    omega
theorem list_le (l : List Node) (h : ∀ k ∈ l, (toldS k).size + 2 ≤ 40 * k.wt) : (listS l).size ≤ 40 * wts l := by
  have h1 := joinS_sum (l.map toldS)
  have h2 := sum_told l h
  rw [List.length_map] at h1
  unfold listS
  omega
theorem quote_le (t : ByteArray) : (quoteS t).size ≤ 2 * t.size + 2 := by
  have h := escB_le t.data.toList
  have h2 : t.data.toList.length = t.size := Array.length_toList
  unfold quoteS
  rw [str_size]
  simp only [List.length_cons, List.length_append, List.length_nil]
  omega
theorem lits (a b c d e f g : List UInt8) : True := trivial
theorem told_le : ∀ n : Node, (toldS n).size + 2 ≤ 40 * n.wt := by
  refine node_ind (fun n ih => ?_)
  have hl := list_le n.kids ih
  have ht := list_le n.kids.tail (fun k hk => ih k (List.mem_of_mem_tail hk))
  have h0 := fun i => strAt_le (f := toldS) (g := fun k => 40 * k.wt) (fun k hk => by have := ih k hk; omega) (l := n.kids) i
  have h1 := h0 1
  have h0 := h0 0
  have ha := atN_two n.kids 40
  have hb := atN_tail n.kids 40
  have hw := wt_eq n
  have hq := quote_le n.text
  have e1 := fun b => heldS_le b (strAt (n.kids.map toldS) 0)
  have e2 := fun b => heldS_le b (strAt (n.kids.map toldS) 1)
  rw [toldS_eq]
  generalize strAt (n.kids.map toldS) 0 = S0 at *
  generalize strAt (n.kids.map toldS) 1 = S1 at *
  generalize atN n.kids (fun k => 40 * k.wt) 0 = A0 at *
  generalize atN n.kids (fun k => 40 * k.wt) 1 = A1 at *
  generalize listS n.kids = L at *
  generalize listS n.kids.tail = L' at *
  repeat' split
  all_goals (try simp only [ByteArray.size_append, str_size, List.length_cons, List.length_nil])
  all_goals first
    | omega
    | (have := e1 (plusB n.text && kindAt n.kids 0 == 26 && plusB (textAt n.kids 0) || kindAt n.kids 0 == 27); omega)
    | (have := e1 (kindAt n.kids 0 == 27 && decide (bindsI (textAt n.kids 0) < bindsI n.text)); have := e2 (kindAt n.kids 1 == 27 && decide (bindsI (textAt n.kids 1) ≤ bindsI n.text)); omega)
    | (have := e1 (kindAt n.kids 0 == 27 || kindAt n.kids 0 == 26); omega)
theorem told_le' (k : Node) : (toldS k).size ≤ 40 * k.wt := by have := told_le k; omega
theorem list_le' (l : List Node) : (listS l).size ≤ 40 * wts l := list_le l (fun k _ => told_le k)
theorem text_le (k : Node) : k.text.size ≤ 40 * k.wt := by rw [wt_eq]; omega
theorem short_le (n : Node) : (shortS n).size ≤ 40 * n.wt := by
  have hl := list_le' (n.kids.take n.n.toNat)
  have h0 := fun i => strAt_le (f := toldS) (g := fun k => 40 * k.wt) (fun k _ => told_le' k) (l := n.kids) i
  have h1 := h0 1
  have hv := h0 n.n.toNat
  have h0 := h0 0
  have hx := textAt_le (g := fun k => 40 * k.wt) (fun k _ => text_le k) (l := n.kids) 0
  have ha := atN_two n.kids 40
  have hb := atN_v n.kids 40 n.n.toNat
  have hw := wt_eq n
  unfold shortS
  repeat' split
  all_goals (try simp only [ByteArray.size_append, str_size, List.length_cons, List.length_nil, ByteArray.size_empty])
  all_goals omega
theorem kid_at_le {l : List Node} {i : Nat} {k : Node} (h : l[i]? = some k) (f : Node → ByteArray) : strAt (l.map f) i = f k := by
  unfold strAt
  rw [List.getElem?_map, h]
  rfl
theorem sum_lines (d : Nat) (l : List Node) (C : Nat) (h : ∀ k ∈ l, (rowS k d).size + d + 2 ≤ k.wt * C) : (linesS d (l.map (rowS · d))).size ≤ wts l * C := by
  unfold linesS
  rw [partsS_sum]
  induction l with
  | nil => simp [sumS]
  | cons a r ih =>
    have h1 := h a (by simp)
    have h2 := ih (fun k hk => h k (by simp [hk]))
    have h3 : (str [10]).size = 1 := rfl
    rw [List.map_cons, List.map_cons, sumS_cons, wts_cons, Nat.add_mul]
    simp only [ByteArray.size_append, tabsS_size, h3]
    omega
theorem block_le (d : Nat) (n : Node) (C : Nat) (h : ∀ k ∈ n.kids, (rowS k (d + 1)).size + (d + 1) + 2 ≤ k.wt * C) : (blockS n d).size ≤ wts n.kids * C + d + 3 := by
  have h1 := sum_lines (d + 1) n.kids C h
  rw [blockS_eq, innerS]
  simp only [ByteArray.size_append, str_size, List.length_cons, List.length_nil, tabsS_size]
  omega
theorem wt_C (n : Node) (C : Nat) : n.wt * C = n.text.size * C + n.type.size * C + (intS n.n).size * C + C + wts n.kids * C := by rw [wt_eq]; simp only [Nat.add_mul, Nat.one_mul]
theorem ge_C (a C : Nat) (h : 100 ≤ C) : 100 * a ≤ a * C := by rw [Nat.mul_comm]; exact Nat.mul_le_mul_left a h
theorem clause_le (d : Nat) (c : Node) (kd : Int) (C : Nat) (hC : 200 + 4 * d ≤ C) (hkd : kd = 14 ∨ kd = 16) (hc : clauseB kd c = true) (hl : lastB c.kids = true) (h : ∀ b ∈ c.kids, blockB b = true → ∀ k ∈ b.kids, (rowS k (d + 1)).size + (d + 1) + 2 ≤ k.wt * C) : (clauseS c d).size ≤ c.wt * C := by
  have hw := wt_C c C
  have ok := clause_ok hkd hc
  obtain ⟨q, hq⟩ : ∃ q, c.kids.length = q + 1 := ⟨c.kids.length - 1, by have := ok.pos; omega⟩
  have hq1 : q < c.kids.length := by omega
  have hb : blockB c.kids[q] = true := by
    rw [lastB_eq, List.getLast?_eq_getElem?, hq] at hl
    simpa [hq1] using hl
  have hs := sum_lines (d + 1) c.kids[q].kids C (h _ (List.getElem_mem hq1) hb)
  have hbw := wt_C c.kids[q] C
  have e : strAt (c.kids.map (bodyS · (d + 1))) (c.kids.length - 1) = bodyS c.kids[q] (d + 1) := kid_at_le (by rw [hq]; exact List.getElem?_eq_getElem hq1) _
  have hsub := wts_sub c.kids q
  rw [List.drop_eq_getElem_cons hq1, wts_cons] at hsub
  have hch : (choiceS c).size ≤ 40 * wts (c.kids.take q) + 7 := by
    rcases ok.cases with h1 | ⟨h1, h2, _⟩ | ⟨h1, h2, _⟩
    · simp [choiceS, h1, str_size]
    · have := list_le' (c.kids.take q)
      simp only [choiceS, h1, h2, List.dropLast_eq_take, hq]
      simp [ByteArray.size_append, str_size]
      omega
    · have hlen : c.kids.length = 2 := by
        unfold clauseB at hc
        simp only [Bool.and_eq_true] at hc
        have h5 := hc.2
        rcases hkd with rfl | rfl
        · have := hc.1.1.1.1
          simp [h2] at this
        · simpa [h1] using (by simpa [h1] using h5 : _ ∧ _).1
      have h0 : 0 < c.kids.length := by omega
      have hq' : q = 1 := by omega
      subst hq'
      have e2 : shortAt c.kids 0 = shortS c.kids[0] := by rw [shortAt_str]; exact kid_at_le (List.getElem?_eq_getElem h0) _
      have h3 := short_le c.kids[0]
      have h4 : wts (c.kids.take 1) = c.kids[0].wt := by
        match c.kids, h0 with
        | x :: r, _ => simp [wts_cons, wts_nil]
      simp only [choiceS, h1, h2, e2]
      simp [ByteArray.size_append, str_size]
      omega
  have hg := ge_C (wts (c.kids.take q)) C (by omega)
  have hsubC : wts c.kids * C = wts (c.kids.take q) * C + c.kids[q].wt * C + wts (c.kids.drop (q + 1)) * C := by rw [← hsub]; simp only [Nat.add_mul]; omega
  rw [clauseS_eq, e, bodyS_eq]
  generalize c.kids[q] = b at *
  simp only [ByteArray.size_append, tabsS_size, str_size, List.length_cons, List.length_nil]
  omega
theorem clauses_le (d : Nat) (l : List Node) (C : Nat) (h : ∀ c ∈ l, (clauseS c d).size ≤ c.wt * C) : (partsS (l.map (clauseS · d))).size ≤ wts l * C := by
  rw [partsS_sum]
  induction l with
  | nil => simp [sumS]
  | cons a r ih =>
    have h1 := h a (by simp)
    have h2 := ih (fun k hk => h k (by simp [hk]))
    rw [List.map_cons, sumS_cons, wts_cons, Nat.add_mul]
    omega
theorem if_shape {l : List Node} (h : ifB l = true) : (∃ x y, l = [x, y] ∧ blockB y = true) ∨ (∃ x y z, l = [x, y, z] ∧ blockB y = true ∧ stmtB z = true) := by
  match l, h with
  | [x, y], h =>
    simp only [ifB, Bool.and_eq_true] at h
    exact .inl ⟨x, y, rfl, by simp only [blockB, Bool.and_eq_true]; exact h.2⟩
  | [x, y, z], h =>
    simp only [ifB, Bool.and_eq_true] at h
    exact .inr ⟨x, y, z, rfl, by simp only [blockB, Bool.and_eq_true]; exact h.1.2, h.2.2⟩
theorem last_block {l : List Node} {b : Node} (h : lastB (l ++ [b]) = true) : blockB b = true := by
  rw [lastB_eq, List.getLast?_append] at h
  simpa using h
theorem row_le (D : Nat) : ∀ n : Node, stmtB n = true → ∀ d, d + n.wt ≤ D → (rowS n d).size + d + 2 ≤ n.wt * (200 + 4 * D) := by
  refine node_strong (fun n ih hB d hD => ?_)
  have hC : 200 + 4 * d ≤ 200 + 4 * D := by omega
  generalize hCe : 200 + 4 * D = C at *
  have hw := wt_C n C
  have hwt := wt_eq n
  have hblk : ∀ b ∈ n.kids, blockB b = true → (blockS b d).size ≤ wts b.kids * C + d + 3 := fun b hb hbb => by
    refine block_le d b C (fun k hk => ?_)
    have h1 := wt_kid hk
    have h2 := wt_kid hb
    have h3 := Node.size_kid hk
    have h4 := Node.size_kid hb
    obtain ⟨i, hi, e⟩ := List.getElem_of_mem hk
    exact ih k (by omega) (e ▸ block_kids hbb i hi) (d + 1) (by omega)
  have hblk2 : ∀ c ∈ n.kids, ∀ b ∈ c.kids, blockB b = true → ∀ k ∈ b.kids, (rowS k (d + 1)).size + (d + 1) + 2 ≤ k.wt * C := fun c hc b hb hbb k hk => by
    have h1 := wt_kid hk
    have h2 := wt_kid hb
    have h2' := wt_kid hc
    have h3 := Node.size_kid hk
    have h4 := Node.size_kid hb
    have h5 := Node.size_kid hc
    obtain ⟨i, hi, e⟩ := List.getElem_of_mem hk
    exact ih k (by omega) (e ▸ block_kids hbb i hi) (d + 1) (by omega)
  have hclause : ∀ kd, kd = 14 ∨ kd = 16 → ∀ l : List Node, (∀ c ∈ l, c ∈ n.kids) → (∀ c ∈ l, clauseB kd c = true) → (∀ c ∈ l, lastB c.kids = true) → (partsS (l.map (clauseS · d))).size ≤ wts l * C := fun kd hkd l hsub h1 h2 =>
    clauses_le d l C (fun c hc => clause_le d c kd C hC hkd (h1 c hc) (h2 c hc) (fun b hb hbb k hk => hblk2 c (hsub c hc) b hb hbb k hk))
  have g := fun a => ge_C a C (by omega)
  have gk := g (wts n.kids)
  have gt := g n.text.size
  have gy := g n.type.size
  have hsimple : simpleB n = true → (rowS n d).size + d + 2 ≤ n.wt * C → (rowS n d).size + d + 2 ≤ n.wt * C := fun _ h => h
  rw [stmtB_eq] at hB
  rw [rowS_eq]
  by_cases q4 : n.kind = 4
  · simp only [q4, beq_self_eq_true, if_true, Bool.and_eq_true] at hB ⊢
    have h1 := sum_lines (d + 1) n.kids C (fun k hk => by
      have h1 := wt_kid hk
      have h2 := hB.2
      rw [stmtsB_all] at h2
      exact ih k (Node.size_kid hk) (List.all_eq_true.1 h2 k hk) (d + 1) (by omega))
    rw [innerS]
    simp only [ByteArray.size_append, str_size, List.length_cons, List.length_nil, tabsS_size]
    omega
  by_cases q5 : n.kind = 5
  · simp [q5] at hB
    have h0 := strAt_le (f := toldS) (g := fun k => 40 * k.wt) (fun k _ => told_le' k) (l := n.kids) 0
    have ha := atN_two n.kids 40
    simp only [q5, show ((5 : Int) == 4) = false from rfl, beq_self_eq_true, if_true, Bool.false_eq_true, if_false]
    split
    all_goals (simp only [ByteArray.size_append, str_size, List.length_cons, List.length_nil, ByteArray.size_empty]; omega)
  by_cases q11 : n.kind = 11
  · simp [q11] at hB
    simp only [q11, show ((11 : Int) == 4) = false from rfl, show ((11 : Int) == 5) = false from rfl, beq_self_eq_true, if_true, Bool.false_eq_true, if_false]
    rcases if_shape hB.2 with ⟨x, y, e, hy⟩ | ⟨x, y, z, e, hy, hz⟩
    · have b1 := hblk y (by rw [e]; simp) hy
      have t1 := told_le' x
      have gx := g x.wt
      have wy := wt_C y C
      have hk : wts n.kids * C = x.wt * C + y.wt * C := by rw [e, wts_cons, wts_cons, wts_nil, Nat.add_zero, Nat.add_mul]
      rw [kid_at_le (l := n.kids) (i := 0) (k := x) (by rw [e]; rfl), kid_at_le (l := n.kids) (i := 1) (k := y) (by rw [e]; rfl) (blockS · d), if_neg (by rw [e]; simp)]
      simp only [ByteArray.size_append, str_size, List.length_cons, List.length_nil, ByteArray.size_empty]
      omega
    · have b1 := hblk y (by rw [e]; simp) hy
      have t1 := told_le' x
      have gx := g x.wt
      have wy := wt_C y C
      have hzk : z ∈ n.kids := by rw [e]; simp
      have r1 := ih z (Node.size_kid hzk) hz d (by have := wt_kid hzk; omega)
      have hk : wts n.kids * C = x.wt * C + y.wt * C + z.wt * C := by rw [e, wts_cons, wts_cons, wts_cons, wts_nil, Nat.add_zero]; simp only [Nat.add_mul]; omega
      rw [kid_at_le (l := n.kids) (i := 0) (k := x) (by rw [e]; rfl), kid_at_le (l := n.kids) (i := 1) (k := y) (by rw [e]; rfl) (blockS · d), kid_at_le (l := n.kids) (i := 2) (k := z) (by rw [e]; rfl) (rowS · d), if_pos (by rw [e]; rfl)]
      simp only [ByteArray.size_append, str_size, List.length_cons, List.length_nil]
      omega
  by_cases q12 : n.kind = 12
  · simp only [q12, show ((12 : Int) == 4) = false from rfl, show ((12 : Int) == 5) = false from rfl, show ((12 : Int) == 11) = false from rfl, beq_self_eq_true, if_true, Bool.false_eq_true, if_false, Bool.and_eq_true, decide_eq_true_eq, beq_iff_eq] at hB ⊢
    obtain ⟨⟨⟨⟨⟨b0, b3⟩, bl⟩, _⟩, blast⟩, bloop⟩ := hB
    have hpos : 1 ≤ n.kids.length := by
      rcases (by omega : n.n = 0 ∨ n.n = 1 ∨ n.n = 2 ∨ n.n = 3) with q | q | q | q <;> rw [q] at bl <;> simp [loopN] at bl <;> omega
    obtain ⟨l, b, e⟩ : ∃ l b, n.kids = l ++ [b] := ⟨n.kids.dropLast, n.kids.getLast (by intro h; rw [h] at hpos; simp at hpos), (List.dropLast_concat_getLast _).symm⟩
    have hb : blockB b = true := last_block (by rw [← e]; exact blast)
    have b1 := hblk b (by rw [e]; simp) hb
    have wb := wt_C b C
    have hk : wts n.kids * C = wts l * C + b.wt * C := by rw [e, wts_append, wts_cons, wts_nil, Nat.add_zero, Nat.add_mul]
    have gl := g (wts l)
    have e1 : strAt (n.kids.map (blockS · d)) (n.kids.length - 1) = blockS b d := kid_at_le (by rw [e]; simp) _
    have hh : (headS n).size ≤ 40 * wts l + n.text.size + 40 := by
      rcases (by omega : n.n = 0 ∨ n.n = 1 ∨ n.n = 2 ∨ n.n = 3) with q | q | q | q
      · simp [headS, q]
      · rw [q] at bl
        have hl : l.length = 1 := by rw [e] at bl; simp [loopN] at bl; omega
        match l, hl with
        | [x], _ =>
          have t1 := told_le' x
          rw [headS, if_pos (by rw [q]; rfl), kid_at_le (l := n.kids) (i := 0) (k := x) (by rw [e]; rfl), wts_cons, wts_nil]
          simp only [ByteArray.size_append, str_size, List.length_cons, List.length_nil]
          omega
      · rw [q] at bl
        have hl : l.length = 3 := by rw [e] at bl; simp [loopN] at bl; omega
        match l, hl with
        | [x, y, z], _ =>
          have t1 := short_le x
          have t2 := told_le' y
          have t3 := short_le z
          rw [headS, if_neg (by rw [q]; decide), if_pos (by rw [q]; rfl), shortAt_str, shortAt_str, kid_at_le (l := n.kids) (i := 0) (k := x) (by rw [e]; rfl), kid_at_le (l := n.kids) (i := 1) (k := y) (by rw [e]; rfl), kid_at_le (l := n.kids) (i := 2) (k := z) (by rw [e]; rfl), wts_cons, wts_cons, wts_cons, wts_nil]
          split
          all_goals split
          all_goals (simp only [ByteArray.size_append, str_size, List.length_cons, List.length_nil, ByteArray.size_empty]; omega)
      · rw [q] at bl
        have hl : l.length = 2 := by rw [e] at bl; simp [loopN] at bl; omega
        match l, hl with
        | [x, y], _ =>
          have t1 := text_le x
          have t2 := told_le' y
          have e0 : textAt n.kids 0 = x.text := by unfold textAt; rw [e]; rfl
          rw [headS, if_neg (by rw [q]; decide), if_neg (by rw [q]; decide), if_pos (by rw [q]; rfl), e0, kid_at_le (l := n.kids) (i := 1) (k := y) (by rw [e]; rfl), wts_cons, wts_cons, wts_nil]
          split
          all_goals (simp only [ByteArray.size_append, str_size, List.length_cons, List.length_nil, ByteArray.size_empty]; omega)
    rw [e1]
    simp only [ByteArray.size_append, str_size, List.length_cons, List.length_nil]
    omega
  by_cases q13 : n.kind = 13
  · obtain ⟨b1, b2, b4, hcl, hla⟩ := switch_facts q13 (by rw [stmtB_eq]; exact hB)
    have hp := hclause 14 (.inl rfl) (n.kids.drop n.n.toNat) (fun c hc => List.mem_of_mem_drop hc) hcl hla
    have hsub := wts_sub n.kids n.n.toNat
    have hk : wts n.kids * C = wts (n.kids.take n.n.toNat) * C + wts (n.kids.drop n.n.toNat) * C := by rw [← hsub, Nat.add_mul]
    have gl := g (wts (n.kids.take n.n.toNat))
    simp only [q13, show ((13 : Int) == 4) = false from rfl, show ((13 : Int) == 5) = false from rfl, show ((13 : Int) == 11) = false from rfl, show ((13 : Int) == 12) = false from rfl, beq_self_eq_true, if_true, Bool.false_eq_true, if_false, drop_map_clause]
    split
    · rename_i h1
      have h1 : n.n = 1 := by simpa using h1
      have h0 : (strAt (n.kids.map toldS) 0).size ≤ 40 * wts (n.kids.take n.n.toNat) := by
        rw [h1]
        match n.kids with
        | [] => simp [strAt]
        | x :: r =>
          have := told_le' x
          rw [kid_at_le (l := x :: r) (i := 0) (k := x) rfl]
          show _ ≤ 40 * wts [x]
          rw [wts_cons, wts_nil]
          omega
      simp only [ByteArray.size_append, str_size, List.length_cons, List.length_nil, ByteArray.size_empty, tabsS_size]
      omega
    · simp only [ByteArray.size_append, str_size, List.length_cons, List.length_nil, ByteArray.size_empty, tabsS_size]
      omega
  by_cases q15 : n.kind = 15
  · simp [q15] at hB
    have hcl : ∀ c ∈ n.kids, clauseB 16 c = true := by simpa using hB.1.1.2
    have hla : ∀ c ∈ n.kids, lastB c.kids = true := by
      have := hB.2
      rw [lastsB_all] at this
      simpa using this
    have hp := hclause 16 (.inr rfl) n.kids (fun c hc => hc) hcl hla
    simp only [q15, show ((15 : Int) == 4) = false from rfl, show ((15 : Int) == 5) = false from rfl, show ((15 : Int) == 11) = false from rfl, show ((15 : Int) == 12) = false from rfl, show ((15 : Int) == 13) = false from rfl, beq_self_eq_true, if_true, Bool.false_eq_true, if_false]
    simp only [ByteArray.size_append, str_size, List.length_cons, List.length_nil, tabsS_size]
    omega
  have h0 := strAt_le (f := toldS) (g := fun k => 40 * k.wt) (fun k _ => told_le' k) (l := n.kids) 0
  have ha := atN_two n.kids 40
  have hs := short_le n
  have gn := g n.wt
  simp only [show (n.kind == 4) = false from beq_eq_false_iff_ne.2 q4, show (n.kind == 5) = false from beq_eq_false_iff_ne.2 q5, show (n.kind == 11) = false from beq_eq_false_iff_ne.2 q11, show (n.kind == 12) = false from beq_eq_false_iff_ne.2 q12, show (n.kind == 13) = false from beq_eq_false_iff_ne.2 q13, show (n.kind == 15) = false from beq_eq_false_iff_ne.2 q15, Bool.false_eq_true, if_false]
  have hwpos : 1 ≤ n.wt := by omega
  have hwd : (200 + 4 * D) * 1 ≤ (200 + 4 * D) * n.wt := Nat.mul_le_mul_left _ hwpos
  rw [hCe, Nat.mul_comm C n.wt] at hwd
  have hst : (shortS n).size + d + 2 ≤ n.wt * C := by
    have h1 : 200 * n.wt + 4 * D * n.wt = n.wt * C := by rw [← hCe, Nat.mul_comm n.wt, Nat.add_mul]
    have h2 : 4 * D * 1 ≤ 4 * D * n.wt := Nat.mul_le_mul_left _ hwpos
    omega
  repeat' split
  all_goals first
    | exact hst
    | (simp only [ByteArray.size_append, str_size, List.length_cons, List.length_nil, ByteArray.size_empty]; omega)
theorem func_le (D : Nat) (f : Node) (h : funcB f = true) (hD : f.wt ≤ D) : (funcS f).size ≤ f.wt * (200 + 4 * D) := by
  obtain ⟨h1, h2, h3⟩ := func_facts h
  obtain ⟨q, hq⟩ : ∃ q, f.kids.length = q + 1 := ⟨f.kids.length - 1, by omega⟩
  have hq1 : q < f.kids.length := by omega
  have hb : blockB f.kids[q] = true := by
    rw [lastB_eq, List.getLast?_eq_getElem?, hq] at h3
    simpa [hq1] using h3
  have hbw := wt_kid (List.getElem_mem hq1)
  have e : strAt (f.kids.map (blockS · 0)) (f.kids.length - 1) = blockS f.kids[q] 0 := kid_at_le (by rw [hq]; exact List.getElem?_eq_getElem hq1) _
  have b1 := block_le 0 f.kids[q] (200 + 4 * D) (fun k hk => by
    have := wt_kid hk
    obtain ⟨i, hi, e⟩ := List.getElem_of_mem hk
    exact row_le D k (e ▸ block_kids hb i hi) 1 (by omega))
  have hsub := wts_sub f.kids q
  rw [List.drop_eq_getElem_cons hq1, wts_cons] at hsub
  have hp : (joinS (f.kids.dropLast.map paramS)).size ≤ 40 * wts (f.kids.take q) := by
    have hx := joinS_sum (f.kids.dropLast.map paramS)
    rw [List.dropLast_eq_take, hq] at hx ⊢
    rw [show q + 1 - 1 = q from rfl] at hx ⊢
    have : ∀ l : List Node, sumS (l.map paramS) + 2 * l.length ≤ 40 * wts l := by
      intro l
      induction l with
      | nil => simp [sumS]
      | cons a r ih =>
        have hw := wt_eq a
        have h1 : (str [32]).size = 1 := rfl
        rw [List.map_cons, sumS_cons, wts_cons, List.length_cons, paramS]
        simp only [ByteArray.size_append, h1]
        omega
    have := this (f.kids.take q)
    rw [List.length_map] at hx
    omega
  have hw := wt_C f (200 + 4 * D)
  have hC : 200 ≤ 200 + 4 * D := by omega
  generalize 200 + 4 * D = C at *
  have gt := ge_C f.text.size C (by omega)
  have gy := ge_C f.type.size C (by omega)
  have gl := ge_C (wts (f.kids.take q)) C (by omega)
  have wb := wt_C f.kids[q] C
  have hsubC : wts f.kids * C = wts (f.kids.take q) * C + f.kids[q].wt * C + wts (f.kids.drop (q + 1)) * C := by rw [← hsub]; simp only [Nat.add_mul]; omega
  unfold funcS
  rw [e]
  generalize f.kids[q] = b at *
  split
  all_goals (simp only [ByteArray.size_append, str_size, List.length_cons, List.length_nil, ByteArray.size_empty]; omega)
theorem text_size (n : Node) (h : rightD n = 0) (hw : n.wt ≤ 5000000) : (textS n).size ≤ 140737488355328 := by
  have h1 : ∀ l : List Node, (∀ f ∈ l, funcB f = true ∧ f.wt ≤ n.wt) → sumS (l.map funcS) ≤ wts l * (200 + 4 * n.wt) := by
    intro l
    induction l with
    | nil => intro _; simp [sumS]
    | cons a r ih =>
      intro hl
      have h2 := ih (fun f hf => hl f (by simp [hf]))
      have h3 := func_le n.wt a (hl a (by simp)).1 (hl a (by simp)).2
      rw [List.map_cons, sumS_cons, wts_cons, Nat.add_mul]
      omega
  have h2 := h1 n.kids (fun f hf => ⟨right_all h f hf, by have := wt_kid hf; omega⟩)
  have h3 := wt_eq n
  unfold textS
  rw [partsS_sum]
  have h4 : wts n.kids * (200 + 4 * n.wt) ≤ n.wt * (200 + 4 * n.wt) := Nat.mul_le_mul_right _ (by omega)
  have h5 : n.wt * (200 + 4 * n.wt) ≤ 5000000 * (200 + 4 * 5000000) := Nat.mul_le_mul (by omega) (by omega)
  omega
end Go.Proofs.YtjdeomenioagdaaGreatDoor
