/- Same, by the program. -/
import Derived.Test.YtjdeomenioagdaaGreatDoorRight
set_option linter.unusedVariables false
set_option linter.unusedSimpArgs false
namespace Go.Proofs.YtjdeomenioagdaaGreatDoor
open Go.RowKit
theorem enters_same : ∀ args w, (callFunc 19 args).run Tryz.prog w = .ok (.enter 19 args) w := fun args w => by kernel_rfl
mutual
def sameB : Node → Node → Bool
  | ⟨k, t, n, y, _, _, _, ks⟩, ⟨k', t', n', y', _, _, _, ks'⟩ => k == k' && t.toList == t'.toList && n == n' && (marksB k || y.toList == y'.toList) && samesB ks ks'
def samesB : List Node → List Node → Bool
  | [], [] => true
  | a :: r, b :: s => sameB a b && samesB r s
  | _, _ => false
end
theorem sameB_eq (a b : Node) : sameB a b = (a.kind == b.kind && a.text.toList == b.text.toList && a.n == b.n && (marksB a.kind || a.type.toList == b.type.toList) && samesB a.kids b.kids) := by
  cases a; cases b; rw [sameB]
theorem samesB_step {l r : List Node} {k : Nat} (h : k < l.length) (h' : k < r.length) : samesB (l.drop k) (r.drop k) = (sameB l[k] r[k] && samesB (l.drop (k + 1)) (r.drop (k + 1))) := by
  rw [List.drop_eq_getElem_cons h, List.drop_eq_getElem_cons h', samesB]
theorem samesB_len {l r : List Node} (h : l.length ≠ r.length) : samesB l r = false := by
  induction l generalizing r with
  | nil => cases r with
    | nil => exact absurd rfl h
    | cons b s => rfl
  | cons a l ih => cases r with
    | nil => rfl
    | cons b s =>
      rw [samesB, ih (by simpa using h)]
      simp
def SameIH (m : Nat) : Prop := ∀ (w0 : World) (B : Nat) (A A' : Option Addr) (c c' : Nat) (n n' : Node) (w : World), ValAt w0 B A n c → ValAt w0 B A' n' c' → n.size ≤ m → Ro w0 B w →
  Calls Tryz.prog 19 #[.agg #[.int .i64 n.kind, .string n.text, .int .i64 n.n, .string n.type, .int .i64 n.slot, .int .i64 n.at_, .int .i64 n.line, .slice A n.kids.length c], .agg #[.int .i64 n'.kind, .string n'.text, .int .i64 n'.n, .string n'.type, .int .i64 n'.slot, .int .i64 n'.at_, .int .i64 n'.line, .slice A' n'.kids.length c']] w fun e w' => e = .returned (.bool (sameB n n')) ∧ Ro w0 B w'
set_option maxHeartbeats 40000000 in
set_option maxRecDepth 100000 in
theorem equal_c {w0 w : World} {B m : Nat} {A A' : Option Addr} {l l' : List Node} {c c' : Nat} (ih : SameIH m) (hk : KidsAt w0 B A l c) (hk' : KidsAt w0 B A' l' c') (hm : ∀ x ∈ l, x.size ≤ m) (hr : Ro w0 B w) :
    Calls Tryz.prog 34 #[.slice A l.length c, .slice A' l'.length c', .func (.func 19) #[] #[]] w fun e w' => e = .returned (.bool (samesB l l')) ∧ Ro w0 B w' := by
  have hfv := enters_same
  have hl := hk.le
  have hl' := hk.le'
  have hl2 := hk'.le
  have hl2' := hk'.le'
  by_cases hne : l.length = l'.length
  · have q1 : ((l.length : Int) == (l'.length : Int)) = true := by rw [beq_iff_eq]; omega
    have q2 : ((l.length : Int) != (l'.length : Int)) = false := by rw [bne_eq_false_iff_eq]; omega
    have HNE := Lib.hid hne
    clear hne
    go_enter Tryz.func34, Tryz.ntmps34
    go_wp2_with fail
    go_loopw [7, 8, 9, 17] (fun _ _ _ u wr => ∃ k : Nat, k ≤ l.length ∧ u = .int .i64 k ∧ Hid (samesB l l' = samesB (l.drop k) (l'.drop k)) ∧ Ro w0 B wr) (fun _ _ _ u _ => (l.length - (intOf u).toNat : Nat))
    case atStart => exact ⟨0, by omega, rfl, rfl, hr⟩
    case round =>
      obtain ⟨k, hkl, rfl, H, hrw⟩ := hrel
      have hc := hrw.cell
      by_cases hlt : k < l.length
      · have hlt' : k < l'.length := by have := HNE.out; omega
        obtain ⟨ad, rfl⟩ := hk.some_ (by omega)
        obtain ⟨ad', rfl⟩ := hk'.some_ (by omega)
        have hx := kid_at hk hlt
        have hy := kid_at hk' hlt'
        have hxs := hm _ (List.getElem_mem hlt)
        have HS : Hid (samesB l l' = (sameB l[k] l'[k] && samesB (l.drop (k + 1)) (l'.drop (k + 1)))) := by show _ = _; rw [H.out, samesB_step hlt hlt']
        generalize l[k] = x at hx hxs HS
        generalize l'[k] = y at hy HS
        obtain ⟨A1, c1, vx, hb, x0, x1, x2, x3, x4, x5, x6, x7⟩ := hx.val
        obtain ⟨A2, c2, vy, hb', y0, y1, y2, y3, y4, y5, y6, y7⟩ := hy.val
        have hz := hrw.lt hb
        have hz' := hrw.lt hb'
        have HC : Hid (∀ w, Ro w0 B w → Calls Tryz.prog 19 #[.agg #[.int .i64 x.kind, .string x.text, .int .i64 x.n, .string x.type, .int .i64 x.slot, .int .i64 x.at_, .int .i64 x.line, .slice A1 x.kids.length c1], .agg #[.int .i64 y.kind, .string y.text, .int .i64 y.n, .string y.type, .int .i64 y.slot, .int .i64 y.at_, .int .i64 y.line, .slice A2 y.kids.length c2]] w fun e w' => e = .returned (.bool (sameB x y)) ∧ Ro w0 B w') := fun w hr => ih _ _ _ _ _ _ _ _ _ vx vy hxs hr
        have tok : sameB x y = true ∨ sameB x y = false := by cases sameB x y <;> simp
        clear H hx hy hk hk' hm ih vx vy
        rcases tok with hp | hp
        · rw [hp] at HC HS
          have HN : Hid (samesB l l' = samesB (l.drop (k + 1)) (l'.drop (k + 1))) := by show _ = _; rw [HS.out, Bool.true_and]
          replace HC := Lib.hid HC
          clear HS hp
          go_wp2_with (go_at_call 19; (with_reducible refine (HC.out.out _ ?hr).mono ?_); (case hr => exact (hrw.alloc _).alloc _); rintro e w1 ⟨rfl, hr1⟩)
          exact ⟨⟨k + 1, by omega, by go_num, HN, hr1⟩, by simp [intOf]; omega⟩
        · rw [hp] at HC HS
          have HN : Hid (samesB l l' = false) := by show _ = _; rw [HS.out, Bool.false_and]
          replace HC := Lib.hid HC
          clear HS hp
          go_wp2_with (go_at_call 19; (with_reducible refine (HC.out.out _ ?hr).mono ?_); (case hr => exact (hrw.alloc _).alloc _); rintro e w1 ⟨rfl, hr1⟩)
          go_ret
          exact ⟨ret_bool HN.out.symm, hr1⟩
      · have hk1 : k = l.length := by omega
        have HN : Hid (samesB l l' = true) := by
          show _ = _
          rw [H.out, List.drop_eq_nil_of_le (by omega), List.drop_eq_nil_of_le (by have := HNE.out; omega)]
          rfl
        clear H
        subst hk1
        go_wp2_with fail
        go_ret
        exact ⟨ret_bool HN.out.symm, hrw⟩
  · have q1 : ((l.length : Int) == (l'.length : Int)) = false := by rw [beq_eq_false_iff_ne]; omega
    have q2 : ((l.length : Int) != (l'.length : Int)) = true := by rw [bne_iff_ne]; omega
    have HN := Lib.hid (samesB_len hne)
    clear hne
    go_enter Tryz.func34, Tryz.ntmps34
    go_wp2_with fail
    go_ret
    exact ⟨ret_bool HN.out.symm, hr⟩
set_option maxHeartbeats 40000000 in
set_option maxRecDepth 100000 in
theorem same_step {w0 w : World} {B m : Nat} {A A' : Option Addr} {c c' : Nat} {n n' : Node} (ih : SameIH m) (hv : ValAt w0 B A n c) (hv' : ValAt w0 B A' n' c') (hm : n.size ≤ m + 1) (hr : Ro w0 B w) :
    Calls Tryz.prog 19 #[.agg #[.int .i64 n.kind, .string n.text, .int .i64 n.n, .string n.type, .int .i64 n.slot, .int .i64 n.at_, .int .i64 n.line, .slice A n.kids.length c], .agg #[.int .i64 n'.kind, .string n'.text, .int .i64 n'.n, .string n'.type, .int .i64 n'.slot, .int .i64 n'.at_, .int .i64 n'.line, .slice A' n'.kids.length c']] w fun e w' => e = .returned (.bool (sameB n n')) ∧ Ro w0 B w' := by
  have E := Lib.hid (sameB_eq n n')
  have hms : ∀ x ∈ n.kids, x.size ≤ m := fun x hx => by have := n.size_kid hx; omega
  have HQ := fun w (hr : Ro w0 B w) => equal_c ih hv.kids hv'.kids hms hr
  replace HQ := Lib.hid HQ
  go_enter Tryz.func19, Tryz.ntmps19
  go_wp2_with (first
    | (go_at_call 33; (with_reducible refine (marks_c _ _).mono ?_); rintro e w' ⟨rfl, rfl⟩)
    | (go_at_call 34; (with_reducible refine (HQ.out _ ?hr).mono ?_); (case hr => exact (hr.alloc _).alloc _); rintro e w1 ⟨rfl, hr1⟩))
  all_goals go_ret
  all_goals refine ⟨ret_bool ?_, by first | assumption | exact (hr.alloc _).alloc _⟩
  all_goals go_light
  all_goals rw [E.out]
  all_goals first | (simp [*]; done) | (simp_all; done) | grind
theorem same_ih : ∀ m, SameIH m
  | 0 => fun w0 B A A' c c' n n' w _ _ hm _ => absurd n.size_pos (by omega)
  | m + 1 => fun w0 B A A' c c' n n' w hv hv' hm hr => same_step (same_ih m) hv hv' hm hr
theorem same_c {w0 w : World} {B : Nat} {A A' : Option Addr} {c c' : Nat} {n n' : Node} (hv : ValAt w0 B A n c) (hv' : ValAt w0 B A' n' c') (hr : Ro w0 B w) :
    Calls Tryz.prog 19 #[.agg #[.int .i64 n.kind, .string n.text, .int .i64 n.n, .string n.type, .int .i64 n.slot, .int .i64 n.at_, .int .i64 n.line, .slice A n.kids.length c], .agg #[.int .i64 n'.kind, .string n'.text, .int .i64 n'.n, .string n'.type, .int .i64 n'.slot, .int .i64 n'.at_, .int .i64 n'.line, .slice A' n'.kids.length c']] w fun e w' => e = .returned (.bool (sameB n n')) ∧ Ro w0 B w' := same_ih n.size _ _ _ _ _ _ _ _ _ hv hv' (Nat.le_refl _) hr
end Go.Proofs.YtjdeomenioagdaaGreatDoor
