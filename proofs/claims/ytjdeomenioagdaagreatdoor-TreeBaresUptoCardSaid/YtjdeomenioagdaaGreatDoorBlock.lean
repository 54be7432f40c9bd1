/- Blocks; the functions of statements that call each other. -/
import Derived.Test.YtjdeomenioagdaaGreatDoorSimples
set_option linter.unusedVariables false
set_option linter.unusedSimpArgs false
namespace Go.Proofs.YtjdeomenioagdaaGreatDoor
open Go.RowKit
def StmtIH (m : Nat) : Prop := ∀ (w0 : World) (B : Nat) (a : Addr) (n : Node) (w : World), NodeAt w0 B a n → n.size ≤ m → Ro w0 B w →
  Calls Tryz.prog 50 #[.pointer (some a)] w fun e w' => e = .returned (.bool (stmtB n)) ∧ Ro w0 B w'
theorem NodeAt.rebase {w0 w : World} {B B' : Nat} (hw : ∀ a : Addr, a.block < B → w.cell? a = w0.cell? a) (hB : B ≤ B') {a : Addr} {n : Node} (h : NodeAt w0 B a n) : NodeAt w B' a n := by
  induction h with
  | mk a n A c hb ht ht' hi c0 c1 c2 c3 c4 c5 c6 c7 hc hc' hcc hA hk ih =>
    exact .mk a n A c (by omega) ht ht' hi ((hw a hb).trans c0) ((hw (fld a 1) hb).trans c1) ((hw (fld a 2) hb).trans c2) ((hw (fld a 3) hb).trans c3) ((hw (fld a 4) hb).trans c4) ((hw (fld a 5) hb).trans c5) ((hw (fld a 6) hb).trans c6) ((hw (fld a 7) hb).trans c7) hc hc' hcc hA ih
theorem Ro.node {w0 w : World} {B : Nat} (h : Ro w0 B w) {a : Addr} {n : Node} (hn : NodeAt w0 B a n) : NodeAt w w.heap.size a n := hn.rebase h.cell h.size
theorem Ro.kids {w0 w : World} {B : Nat} (h : Ro w0 B w) {A : Option Addr} {l : List Node} {c : Nat} (hk : KidsAt w0 B A l c) : KidsAt w w.heap.size A l c :=
  ⟨hk.le, hk.le', hk.cap, hk.some_, fun ad hA i hi => h.node (hk.at_ ad hA i hi)⟩
theorem Ro.self (w : World) : Ro w w.heap.size w := ⟨Below.refl _ _, Nat.le_refl _⟩
theorem Ro.trans_ {w0 w w' : World} {B : Nat} (h : Ro w0 B w) (h' : Ro w w.heap.size w') : Ro w0 B w' := h.below_ h'.below
theorem stmtsB_all (l : List Node) : stmtsB l = l.all stmtB := by
  induction l with
  | nil => simp [stmtsB]
  | cons k r ih => simp [stmtsB, ih]
theorem enters_stmt : ∀ args w, (callFunc 50 args).run Tryz.prog w = .ok (.enter 50 args) w := fun args w => by kernel_rfl
theorem all_stmt {w0 w : World} {B : Nat} {A : Option Addr} {n : Node} {c m : Nat} (ih : StmtIH m) (hk : KidsAt w0 B A n.kids c) (hm : n.size ≤ m + 1) (hr : Ro w0 B w) :
    Calls Tryz.prog 25 #[.slice A n.kids.length c, .func (.func 50) #[] #[]] w fun e w' => e = .returned (.bool (stmtsB n.kids)) ∧ Ro w0 B w' := by
  rw [stmtsB_all]
  exact all_c _ _ enters_stmt hk (fun ad hA i h w hr => by
    have := n.size_kid (List.getElem_mem h)
    exact ih _ _ _ _ _ (hk.at_ ad hA i h) (by omega) hr) hr
theorem stmtB_eq (n : Node) : stmtB n = (
    if n.kind == 4 then bareB n false false false && stmtsB n.kids
    else if n.kind == 5 then properB n.text && tyB n.type && exprsB false n.kids && decide (n.kids.length ≤ 1) && bareB n true true false
    else if n.kind == 11 then bareB n false false false && ifB n.kids
    else if n.kind == 12 then decide (0 ≤ n.n) && decide (n.n ≤ 3) && n.kids.length == loopN n.n && bareB n (n.n == 3) false true && lastB n.kids && loopB n
    else if n.kind == 13 then (n.n == 0 || n.n == 1) && decide (n.n ≤ n.kids.length) && bareB n false false true && exprsB false (n.kids.take n.n.toNat) &&
      (n.kids.drop n.n.toNat).all (clauseB 14) && decide (defaults (n.kids.drop n.n.toNat) ≤ 1) && (if n.n == 0 then lastsB n.kids else match n.kids with | [] => true | _ :: r => lastsB r)
    else if n.kind == 15 then bareB n false false false && n.kids.all (clauseB 16) && decide (defaults n.kids ≤ 1) && lastsB n.kids
    else if n.kind == 17 then n.kids.length == 1 && bareB n false false false && kidB n 0 (fun k => k.kind == 28 && properB k.text && callB k)
    else if n.kind == 18 then exprsB false n.kids && decide (n.kids.length ≤ 1) && bareB n false false false
    else if n.kind == 19 || n.kind == 20 then n.kids.isEmpty && bareB n false false false
    else simpleB n) := by cases n; rw [stmtB.eq_def]; rfl
theorem blockB_eq (n : Node) : blockB n = ((n.kind == 4) && bareB n false false false && stmtsB n.kids) := by
  unfold blockB
  rw [stmtB_eq]
  by_cases h : n.kind = 4
  · simp [h]
  · rw [beq_eq_false_iff_ne.2 h]; rfl
theorem lastB_eq (l : List Node) : lastB l = (l.getLast?).any blockB := by
  match l with
  | [] => simp [lastB]
  | [b] => simp [lastB, blockB]
  | a :: b :: r =>
    rw [lastB, lastB_eq (b :: r)]
    simp
theorem lastsB_all (l : List Node) : lastsB l = l.all (fun k => lastB k.kids) := by
  induction l with
  | nil => simp [lastsB]
  | cons k r ih => cases k; simp [lastsB, ih]
set_option maxHeartbeats 40000000 in
set_option maxRecDepth 100000 in
theorem block_step {w0 w : World} {B : Nat} {a : Addr} {n : Node} {m : Nat} (ih : StmtIH m) (hn : NodeAt w0 B a n) (hm : n.size ≤ m + 1) (hr : Ro w0 B w) :
    Calls Tryz.prog 38 #[.pointer (some a)] w fun e w' => e = .returned (.bool (blockB n)) ∧ Ro w0 B w' := by
  obtain ⟨A, c, hb, c0, c1, c2, c3, c7, hk⟩ := hn.open_
  have hc := hr.cell
  have hl := hk.le
  have hl' := hk.le'
  have hz := hr.lt hb
  have E := Lib.hid (blockB_eq n)
  go_enter Tryz.func38, Tryz.ntmps38
  go_wp2_with (first
    | (go_at_call 24; (with_reducible refine (has_c0 hn ?hr).mono ?_); (case hr => first | assumption | exact Ro.alloc (by assumption) _); rintro e w' ⟨rfl, rfl⟩)
    | (go_at_call 25; (with_reducible refine (all_stmt ih hk hm ?hr).mono ?_); (case hr => first | assumption | exact Ro.alloc (by assumption) _); rintro e w1 ⟨rfl, hr1⟩; have hc1 := hr1.cell))
  all_goals go_ret
  all_goals refine ⟨ret_bool ?_, by first | assumption | exact Ro.alloc (by assumption) _⟩
  all_goals go_light
  all_goals rw [E.out]
  all_goals first | (simp [*]; done) | (simp_all; done) | grind
end Go.Proofs.YtjdeomenioagdaaGreatDoor
