/- A node that came in, read as data, lies in memory as a tree. -/
import Derived.Test.YtjdeomenioagdaaGreatDoorRows
import Derived.Test.YtjdeomenioagdaaGreatDoorLawBares
import Derived.ChangeArms
import Derived.Deep.Slices
import Derived.Lib.ItoaLen
set_option linter.unusedVariables false
set_option linter.unusedSimpArgs false
namespace Go.Proofs.YtjdeomenioagdaaGreatDoor
open Go.RowKit
theorem bulk_one {H : Type} (d : DataW H) : 1 ≤ Rows.uptoBulk d := by
  cases d with
  | lit l => cases l <;> simp [Rows.uptoBulk]
  | nil => simp [Rows.uptoBulk]
  | ptr d => simp [Rows.uptoBulk]
  | slice elems spare => simp [Rows.uptoBulk]
  | agg parts => simp [Rows.uptoBulk]
  | iface t d => simp [Rows.uptoBulk]
  | map entries => simp [Rows.uptoBulk]
  | held h => simp [Rows.uptoBulk]
theorem bulk_all_cons {H : Type} (d : DataW H) (l : List (DataW H)) : Rows.uptoBulkAll (d :: l) = Rows.uptoBulk d + Rows.uptoBulkAll l := by simp only [Rows.uptoBulkAll]
theorem bulk_all_sum {H : Type} (l : List (DataW H)) : Rows.uptoBulkAll l = (l.map Rows.uptoBulk).sum := by
  induction l with
  | nil => simp [Rows.uptoBulkAll]
  | cons d r ih => simp [Rows.uptoBulkAll, ih]
theorem int_len (n : Int) (h : Int64 n) : (intS n).size ≤ 21 := by
  have := Lib.itoa_length_le n h.1 h.2
  unfold intS
  simpa [ByteArray.size] using this
theorem wts_sum (l : List Node) : wts l = (l.map Node.wt).sum := by
  induction l with
  | nil => rfl
  | cons a r ih => simp [wts_cons, ih]
theorem sum_le {l : List Nat} {f g : Nat → Nat} (h : ∀ i ∈ l, f i ≤ g i) : (l.map f).sum ≤ (l.map g).sum := by
  induction l with
  | nil => simp
  | cons a r ih =>
    have h1 := h a (by simp)
    have h2 := ih (fun i hi => h i (by simp [hi]))
    simp only [List.map_cons, List.sum_cons]
    omega
theorem sum_mul (c : Nat) (l : List Nat) (f : Nat → Nat) : (l.map (fun i => c * f i)).sum = c * (l.map f).sum := by
  induction l with
  | nil => simp
  | cons a r ih => simp only [List.map_cons, List.sum_cons, ih, Nat.mul_add]
set_option maxRecDepth 100000 in
theorem open_node {H : Type} {enc : TypeId × Value → H} {W : World} {held : Bool} : ∀ (fuel : Nat) (cs : List Value) (x : DataW H × List MemPlace), DataW.trod enc Tryz.prog W 0 (fun _ => true) held fuel 25 cs = some x →
    Rows.uptoBulk x.1 ≤ 1048576 → ∃ n A c, cs = (nodeV n A c).toList ∧ ValAt W W.heap.size A n c ∧ n.size ≤ Rows.uptoBulk x.1 ∧ n.wt ≤ 3 * Rows.uptoBulk x.1 := by
  intro fuel
  induction fuel using Nat.strongRecOn with
  | _ fuel0 ih =>
    intro cs x h hb
    obtain ⟨xs, fuel, hn, rfl, hlen, hxl, hf⟩ := DataW.trod_struct Tryz.underlying25 h
    have hC : Tryz.prog.cellsOf 25 = 8 := by kernel_rfl
    have hc1 : Tryz.prog.cellsOf 22 = 1 := by kernel_rfl
    have hc2 : Tryz.prog.cellsOf 9 = 1 := by kernel_rfl
    have hc3 : Tryz.prog.cellsOf 2 = 1 := by kernel_rfl
    have hc4 : Tryz.prog.cellsOf 3 = 1 := by kernel_rfl
    have hc5 : Tryz.prog.cellsOf 23 = 1 := by kernel_rfl
    rw [hC] at hlen
    match cs, hlen, xs, hxl with
    | [a0, a1, a2, a3, a4, a5, a6, a7], _, [y0, y1, y2, y3, y4, y5, y6, y7], _ =>
      have e0 := hf 0 _ rfl
      change DataW.trod enc Tryz.prog W 0 (fun _ => true) held fuel 22 (List.take (Tryz.prog.cellsOf 22) (List.drop 0 [a0, a1, a2, a3, a4, a5, a6, a7])) = some y0 at e0
      rw [hc1] at e0
      have e1 := hf 1 _ rfl
      change DataW.trod enc Tryz.prog W 0 (fun _ => true) held fuel 9 (List.take (Tryz.prog.cellsOf 9) (List.drop 1 [a0, a1, a2, a3, a4, a5, a6, a7])) = some y1 at e1
      rw [hc2] at e1
      have e2 := hf 2 _ rfl
      change DataW.trod enc Tryz.prog W 0 (fun _ => true) held fuel 2 (List.take (Tryz.prog.cellsOf 2) (List.drop 2 [a0, a1, a2, a3, a4, a5, a6, a7])) = some y2 at e2
      rw [hc3] at e2
      have e3 := hf 3 _ rfl
      change DataW.trod enc Tryz.prog W 0 (fun _ => true) held fuel 9 (List.take (Tryz.prog.cellsOf 9) (List.drop 3 [a0, a1, a2, a3, a4, a5, a6, a7])) = some y3 at e3
      rw [hc2] at e3
      have e4 := hf 4 _ rfl
      change DataW.trod enc Tryz.prog W 0 (fun _ => true) held fuel 3 (List.take (Tryz.prog.cellsOf 3) (List.drop 4 [a0, a1, a2, a3, a4, a5, a6, a7])) = some y4 at e4
      rw [hc4] at e4
      have e5 := hf 5 _ rfl
      change DataW.trod enc Tryz.prog W 0 (fun _ => true) held fuel 3 (List.take (Tryz.prog.cellsOf 3) (List.drop 5 [a0, a1, a2, a3, a4, a5, a6, a7])) = some y5 at e5
      rw [hc4] at e5
      have e6 := hf 6 _ rfl
      change DataW.trod enc Tryz.prog W 0 (fun _ => true) held fuel 3 (List.take (Tryz.prog.cellsOf 3) (List.drop 6 [a0, a1, a2, a3, a4, a5, a6, a7])) = some y6 at e6
      rw [hc4] at e6
      have e7 := hf 7 _ rfl
      change DataW.trod enc Tryz.prog W 0 (fun _ => true) held fuel 23 (List.take (Tryz.prog.cellsOf 23) (List.drop 7 [a0, a1, a2, a3, a4, a5, a6, a7])) = some y7 at e7
      rw [hc5] at e7
      obtain ⟨k, h0, r0, _⟩ := DataW.trod_int Tryz.underlying22 (x := y0) e0
      obtain ⟨t, h1, r1, _⟩ := DataW.trod_string Tryz.underlying9 (x := y1) e1
      obtain ⟨nn, h2, r2, w2⟩ := DataW.trod_int Tryz.underlying2 (x := y2) e2
      obtain ⟨ty, h3, r3, _⟩ := DataW.trod_string Tryz.underlying9 (x := y3) e3
      obtain ⟨sl, h4, r4, _⟩ := DataW.trod_int Tryz.underlying3 (x := y4) e4
      obtain ⟨at_, h5, r5, _⟩ := DataW.trod_int Tryz.underlying3 (x := y5) e5
      obtain ⟨ln, h6, r6, _⟩ := DataW.trod_int Tryz.underlying3 (x := y6) e6
      have q0 : a0 = .int .i64 k := by simpa using h0
      have q1 : a1 = .string t := by simpa using h1
      have q2 : a2 = .int .i64 nn := by simpa using h2
      have q3 : a3 = .string ty := by simpa using h3
      have q4 : a4 = .int .i64 sl := by simpa using h4
      have q5 : a5 = .int .i64 at_ := by simpa using h5
      have q6 : a6 = .int .i64 ln := by simpa using h6
      subst q0 q1 q2 q3 q4 q5 q6 r0 r1 r2 r3 r4 r5 r6
      have hi : Int64 nn := by
        have := w2
        simp [Lit.wf, IntKind.min, IntKind.max, IntKind.signed, IntKind.bits] at this
        exact this
      have hil := int_len nn hi
      simp only [List.map_cons, List.map_nil, Rows.uptoBulk, Rows.uptoBulkAll, Array.length_toList] at hb ⊢
      have ht : t.size ≤ 1048576 := by have : t.data.size = t.size := rfl; omega
      have hty : ty.size ≤ 1048576 := by have : ty.data.size = ty.size := rfl; omega
      have hts : t.data.size = t.size := rfl
      have htys : ty.data.size = ty.size := rfl
      rcases DataW.trod_slice Tryz.underlying23 (x := y7) e7 with ⟨h7, rfl⟩ | ⟨a, len, cap, elems, rest, n', hn', h7, rfl, _, hl, hcm, hel, hcell, hsp, _⟩
      · have q7 : a7 = .slice none 0 0 := by simpa using h7
        subst q7
        refine ⟨⟨k, t, nn, ty, sl, at_, ln, []⟩, none, 0, rfl, ⟨KidsAt.nil_ _ (by omega), ht, hty, hi⟩, ?_, ?_⟩
        · rw [size_eq]
          simp only [Node.size.sizes]
          omega
        · rw [wt_eq, wts_nil]
          dsimp only
          omega
      · have q7 : a7 = .slice (some a) len cap := by simpa using h7
        subst q7
        simp only [Rows.uptoBulk] at hb ⊢
        have hex : ∀ l : List (DataW H × List MemPlace), (∀ y ∈ l, Rows.uptoBulk y.1 ≤ 1048576) → ∀ j, (∀ i, i < l.length → (W.cells? 0 (a.add ((j + i) * 8)) 8).bind (DataW.trod enc Tryz.prog W 0 (fun _ => true) held n' 25) = l[i]?) →
            ∃ ns : List Node, ns.length = l.length ∧ (∀ i (h : i < ns.length), NodeAt W W.heap.size (a.add ((j + i) * 8)) ns[i]) ∧ Node.size.sizes ns ≤ Rows.uptoBulkAll (l.map (·.1)) ∧ wts ns ≤ 3 * Rows.uptoBulkAll (l.map (·.1)) := by
          intro l
          induction l with
          | nil => intro _ j _; exact ⟨[], rfl, fun i h => absurd h (by simp), by simp [Node.size.sizes], by simp [wts_nil]⟩
          | cons y r ihl =>
            intro hy j hc
            have h0 := hc 0 (by simp)
            rw [List.getElem?_cons_zero] at h0
            obtain ⟨cs', hcs, htr⟩ := Option.bind_eq_some_iff.1 h0
            obtain ⟨_, hcl, hat⟩ := World.cells?_some hcs
            obtain ⟨q, A', c', hq, hv, hs1, hs2⟩ := ih n' (by omega) cs' y htr (hy y (by simp))
            obtain ⟨ns, hns, hna, hs3, hs4⟩ := ihl (fun z hz => hy z (by simp [hz])) (j + 1) (fun i hi => by
              have := hc (i + 1) (by simp; omega)
              rw [List.getElem?_cons_succ] at this
              rw [show j + 1 + i = j + (i + 1) from by omega]
              exact this)
            have hcl' : ∀ i, i < 8 → W.cell? ((a.add ((j + 0) * 8)).add i) = (nodeV q A' c')[i]? := fun i hi => by
              rw [hat i hi, hq]
              simp
            have c0 := hcl' 0 (by omega)
            rw [add_zero_] at c0
            have cc := fun i (h0 : i ≠ 0) (hi : i < 8) => (add_fld (a.add ((j + 0) * 8)) h0) ▸ hcl' i hi
            refine ⟨q :: ns, by simp [hns], fun i hi => ?_, ?_, ?_⟩
            · cases i with
              | zero =>
                refine .mk _ _ A' c' ?_ hv.ht hv.ht' hv.hi c0 (cc 1 (by omega) (by omega)) (cc 2 (by omega) (by omega)) (cc 3 (by omega) (by omega)) (cc 4 (by omega) (by omega)) (cc 5 (by omega) (by omega)) (cc 6 (by omega) (by omega)) (cc 7 (by omega) (by omega)) hv.kids.le hv.kids.le' hv.kids.cap hv.kids.some_ hv.kids.at_
                exact World.block_lt_of_cell? W _ c0
              | succ i =>
                rw [show j + (i + 1) = j + 1 + i from by omega]
                simp only [List.getElem_cons_succ]
                exact hna i (by simpa using hi)
            · simp only [List.map_cons, Node.size.sizes, bulk_all_cons]
              omega
            · simp only [List.map_cons, wts_cons, bulk_all_cons]
              omega
        have hel8 : ∀ y ∈ elems, Rows.uptoBulk y.1 ≤ 1048576 := fun y hy => by
          have : ∀ l : List (DataW H × List MemPlace), y ∈ l → Rows.uptoBulk y.1 ≤ Rows.uptoBulkAll (l.map (·.1)) := by
            intro l
            induction l with
            | nil => intro h; cases h
            | cons z r ihl =>
              intro h
              rw [List.map_cons, bulk_all_cons]
              rcases List.mem_cons.1 h with rfl | h
              · omega
              · have := ihl h; omega
          have := this elems hy
          omega
        obtain ⟨ns, hns, hna, hs3, hs4⟩ := hex elems hel8 0 (fun i hi => by
          have := hcell i (by omega)
          rw [hC] at this
          rw [Nat.zero_add]
          exact this)
        have hlb : elems.length ≤ Rows.uptoBulkAll (elems.map (·.1)) := by
          have : ∀ l : List (DataW H × List MemPlace), l.length ≤ Rows.uptoBulkAll (l.map (·.1)) := by
            intro l
            induction l with
            | nil => simp
            | cons z r ihl => rw [List.map_cons, bulk_all_cons, List.length_cons]; have := bulk_one z.1; omega
          exact this elems
        obtain rfl : len = ns.length := by omega
        refine ⟨⟨k, t, nn, ty, sl, at_, ln, ns⟩, some a, cap, rfl, ⟨⟨hl, by show ns.length ≤ _; omega, by unfold maxLen at hcm; omega, fun _ => ⟨a, rfl⟩, fun ad hA i hi => ?_⟩, ht, hty, hi⟩, ?_, ?_⟩
        · injection hA with hA
          subst hA
          have := hna i hi
          rw [Nat.zero_add] at this
          exact this
        · rw [size_eq]
          dsimp only
          omega
        · rw [wt_eq]
          dsimp only
          omega
end Go.Proofs.YtjdeomenioagdaaGreatDoor
