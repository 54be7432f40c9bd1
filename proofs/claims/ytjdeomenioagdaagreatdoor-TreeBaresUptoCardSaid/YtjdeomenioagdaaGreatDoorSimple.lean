/- Simple statements, by the program. -/
import Derived.Test.YtjdeomenioagdaaGreatDoorExpr2
set_option linter.unusedVariables false
set_option linter.unusedSimpArgs false
namespace Go.Proofs.YtjdeomenioagdaaGreatDoor
open Go.RowKit
/-- A world that is as w0 was below B. -/
structure RoW (w0 : World) (B : Nat) where
  w : World
  ro : Ro w0 B w
theorem RoW.cell {w0 : World} {B : Nat} (p : RoW w0 B) (a : Addr) (h : a.block < B) : p.w.cell? a = w0.cell? a := p.ro.cell a h
/-- A region that draws its order, whose operations only read what lies below B: one walk, in the order of the text. -/
theorem wp_region_ro {P : Program} {id : Nat} {Q : Exit → Act → World → Prop} {a : Act} {w w0 : World} {B : Nat} {l : List Oper} (hr : Ro w0 B w) (hm : P.follows .mixedOrders = true) (hB : Region.lexB .any l.toArray = true)
    (h : wpQuiet P l.toArray (fun w' => ∃ p : RoW w0 B, w' = p.w) (fun a' => ∀ w', Ro w0 B w' → Q .normal a' w') l a) : (Code.region id l.toArray true).wp P Q a w := by
  refine wp_region_quiet (C := fun w' => ∃ p : RoW w0 B, w' = p.w) hm hB ⟨⟨_, hr.drew⟩, rfl⟩ ?_
  have e : (fun a' => ∀ w', (∃ p : RoW w0 B, w' = p.w) → Q .normal a' w') = fun a' => ∀ w', Ro w0 B w' → Q .normal a' w' := by
    funext a'
    exact propext ⟨fun h w' hw => h w' ⟨⟨w', hw⟩, rfl⟩, fun h w' ⟨p, hp⟩ => h w' (hp ▸ p.ro)⟩
  rw [e]
  simpa using h
theorem Calls.ro_of {P : Program} {f : FuncId} {args : Array Value} {w0 w : World} {B : Nat} {v : Value} (h : Calls P f args w fun e w' => e = .returned v ∧ Ro w0 B w') :
    Calls P f args w fun e w'' => e = .returned v ∧ ∃ p : RoW w0 B, w'' = p.w := h.mono fun _ w' ⟨he, hr⟩ => ⟨he, ⟨w', hr⟩, rfl⟩
theorem Calls.ro_same {P : Program} {f : FuncId} {args : Array Value} {w0 : World} {B : Nat} {p : RoW w0 B} {v : Value} (h : Calls P f args p.w fun e w' => e = .returned v ∧ p.w = w') :
    Calls P f args p.w fun e w'' => e = .returned v ∧ ∃ p : RoW w0 B, w'' = p.w := h.mono fun _ _ ⟨he, hr⟩ => ⟨he, p, hr.symm⟩
theorem KidsAt.take {w : World} {B : Nat} {A : Option Addr} {l : List Node} {c : Nat} (h : KidsAt w B A l c) (k : Nat) : KidsAt w B A (l.take k) c :=
  ⟨by have := h.le; rw [List.length_take]; omega, by have := h.le'; rw [List.length_take]; omega, h.cap, fun h0 => h.some_ (by rw [List.length_take] at h0; omega), fun ad hA i hi => by
    rw [List.length_take] at hi
    rw [List.getElem_take]
    exact h.at_ ad hA i (by omega)⟩
set_option maxHeartbeats 4000000 in
theorem blank_c {w0 w : World} {B : Nat} {a : Addr} {n : Node} (hn : NodeAt w0 B a n) (hr : Ro w0 B w) :
    Calls Tryz.prog 112 #[.pointer (some a)] w fun e w' => e = .returned (.bool (isT n.text [95])) ∧ Ro w0 B w' := by
  obtain ⟨A, c, hb, c0, c1, c2, c3, c7, hk⟩ := hn.open_
  have hc := hr.cell
  clear hn hk
  go_enter Tryz.func112, Tryz.ntmps112
  go_wp2_with fail
  go_ret
  exact ⟨rfl, hr⟩
theorem enters_target : ∀ args w, (callFunc 111 args).run Tryz.prog w = .ok (.enter 111 args) w := fun args w => by kernel_rfl
theorem enters_blank : ∀ args w, (callFunc 112 args).run Tryz.prog w = .ok (.enter 112 args) w := fun args w => by kernel_rfl
theorem all_target {w0 w : World} {B : Nat} {A : Option Addr} {l : List Node} {c : Nat} (hk : KidsAt w0 B A l c) (hr : Ro w0 B w) :
    Calls Tryz.prog 25 #[.slice A l.length c, .func (.func 111) #[] #[]] w fun e w' => e = .returned (.bool (l.all targetB)) ∧ Ro w0 B w' :=
  all_c _ _ enters_target hk (fun ad hA i h w hr => target_c (hk.at_ ad hA i h) hr) hr
theorem all_blank {w0 w : World} {B : Nat} {A : Option Addr} {l : List Node} {c : Nat} (hk : KidsAt w0 B A l c) (hr : Ro w0 B w) :
    Calls Tryz.prog 25 #[.slice A l.length c, .func (.func 112) #[] #[]] w fun e w' => e = .returned (.bool (l.all fun k => isT k.text [95])) ∧ Ro w0 B w' :=
  all_c _ _ enters_blank hk (fun ad hA i h w hr => blank_c (hk.at_ ad hA i h) hr) hr
/-- The contract of expr, at every node. -/
def ExprAll (w0 : World) (B : Nat) : Prop := ∀ (a : Addr) (n : Node) (w : World), NodeAt w0 B a n → Ro w0 B w →
  Calls Tryz.prog 62 #[.pointer (some a)] w fun e w' => e = .returned (.bool (exprB n)) ∧ Ro w0 B w'
theorem expr_ih (w0 : World) (B : Nat) : ∀ m, ExprIH w0 B m
  | 0 => fun a n w hn hm hr => absurd n.size_pos (by omega)
  | m + 1 => fun a n w hn hm hr => expr_step (expr_ih w0 B m) hn hm hr
theorem expr_c {w0 w : World} {B : Nat} {a : Addr} {n : Node} (hn : NodeAt w0 B a n) (hr : Ro w0 B w) :
    Calls Tryz.prog 62 #[.pointer (some a)] w fun e w' => e = .returned (.bool (exprB n)) ∧ Ro w0 B w' := expr_ih w0 B n.size a n w hn (Nat.le_refl _) hr
theorem exprs_c {w0 w : World} {B : Nat} {A : Option Addr} {l : List Node} {c : Nat} (hk : KidsAt w0 B A l c) (hr : Ro w0 B w) :
    Calls Tryz.prog 25 #[.slice A l.length c, .func (.func 62) #[] #[]] w fun e w' => e = .returned (.bool (exprsB false l)) ∧ Ro w0 B w' := by
  rw [exprsB_no]
  exact all_c _ _ enters_expr hk (fun ad hA i h w hr => expr_c (hk.at_ ad hA i h) hr) hr
theorem kid_at {w : World} {B : Nat} {ad : Addr} {l : List Node} {c : Nat} (hk : KidsAt w B (some ad) l c) {i : Nat} (h : i < l.length) : NodeAt w B (ad.add (i * 8)) l[i] := hk.at_ ad rfl i h
theorem add_zero_ (a : Addr) : a.add 0 = a := by simp [Addr.add]
theorem add_fld (a : Addr) {k : Nat} (h : k ≠ 0) : a.add k = fld a k := by simp [Addr.add, h]
theorem kid0_at {w : World} {B : Nat} {ad : Addr} {l : List Node} {c : Nat} (hk : KidsAt w B (some ad) l c) (h : 0 < l.length) : NodeAt w B ad l[0] := by
  have := hk.at_ ad rfl 0 h
  rwa [Nat.zero_mul, add_zero_] at this
theorem kidB_at {n : Node} {i : Nat} {p : Node → Bool} (h : i < n.kids.length) : kidB n i p = p n.kids[i] := by simp [kidB, h]
end Go.Proofs.YtjdeomenioagdaaGreatDoor
