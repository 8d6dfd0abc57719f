/- A part of the proof: The card of ScriptReads: for every text that the form allows, the law returns true and leaves its argument as it was; the listed package-level variables of Go's library hold what their initialisers lay. -/
import Derived.Test.YtefbonjcpdjhcaaGreatDoorAbXO
/- Stage 1: regions whose order is drawn. -/
set_option linter.unusedVariables false
namespace Go.Proofs.YtefbonjcpdjhcaaGreatDoor.X
open Go Go.RowKit

/-! ### Which operation waits for which -/
def binds1 (e : Edge) : Bool := Region.binds .any e
/-- Does j wait for i, by at most m steps? -/
def depB (ops : Array Oper) (i : Nat) : Nat → Nat → Bool
  | 0, _ => false
  | m + 1, j => match ops[j]? with
    | none => false
    | some o => o.after.any fun e => binds1 e && (e.on == i || depB ops i m e.on)
def Closed (ops : Array Oper) (listed : Array Bool) : Prop := ∀ j o, ops[j]? = some o → listed.getD j false = true → ∀ e ∈ o.after, binds1 e = true → listed.getD e.on false = true
theorem depB_listed {ops : Array Oper} {listed : Array Bool} (hc : Closed ops listed) (i : Nat) : ∀ (m j : Nat), depB ops i m j = true → listed.getD j false = true → listed.getD i false = true := by
  intro m
  induction m with
  | zero => intro j hd; cases hd
  | succ m ih =>
    intro j hd hj
    simp only [depB] at hd
    cases ho : ops[j]? with
    | none => rw [ho] at hd; cases hd
    | some o =>
      rw [ho] at hd
      simp only at hd
      obtain ⟨e, he, hb⟩ := Array.any_eq_true'.1 hd
      rw [Bool.and_eq_true, Bool.or_eq_true] at hb
      have hl := hc j o ho hj e he hb.1
      rcases hb.2 with h1 | h1
      · rw [← eq_of_beq h1]; exact hl
      · exact ih e.on h1 hl
/-- Does it act? Those of sk are known to be passed over. -/
def effB (ops : Array Oper) (sk : List Nat) (j : Nat) : Bool :=
  !sk.contains j && match ops[j]? with
  | none => false
  | some o => match o.op with
    | .move _ | .assign _ | .pick .. | .load .. | .nilCheck _ | .binOp .. | .unOp .. | .convert .. | .makeInterface .. | .makeFunc .. | .fieldAddr .. | .field .. | .indexAddr .. | .index .. | .slice .. | .extract .. | .build .. => false
    | .call { callee := .builtin .len, .. } | .call { callee := .builtin .cap, .. } => false
    | _ => true
/-- What is held: for the load i the cell a holds v, until somebody has acted that waits for i. -/
abbrev Hold := List (Nat × Addr × Value)
def HoldS (ops : Array Oper) (sk : List Nat) (C : Hold) (listed : Array Bool) (h : Hp) : Prop :=
  ∀ c ∈ C, (∀ j, listed.getD j false = true → effB ops sk j = true → depB ops c.1 ops.size j = false) → hcell h c.2.1 = some c.2.2
def tagged (i : Nat) (a : Addr) : Nat → List Value → Hold
  | _, [] => []
  | k, v :: r => (i, a.add k, v) :: tagged i a (k + 1) r
theorem mem_tagged {i : Nat} {a : Addr} {p : Nat × Addr × Value} : ∀ (vs : List Value) (k : Nat), p ∈ tagged i a k vs ↔ p.1 = i ∧ ∃ j, vs[j]? = some p.2.2 ∧ p.2.1 = a.add (k + j)
  | [], k => by simp [tagged]
  | v :: r, k => by
    simp only [tagged, List.mem_cons, mem_tagged r (k + 1)]
    constructor
    · rintro (rfl | ⟨hi, j, hj, hp⟩)
      · exact ⟨rfl, 0, by simp, by simp⟩
      · exact ⟨hi, j + 1, by simpa using hj, by rw [hp, show k + 1 + j = k + (j + 1) by omega]⟩
    · rintro ⟨hi, j, hj, hp⟩
      cases j with
      | zero =>
        left
        simp at hj
        obtain ⟨p1, p2, p3⟩ := p
        simp at hi hp hj
        rw [hi, hp, hj]
      | succ j => exact .inr ⟨hi, j, by simpa using hj, by rw [hp, show k + 1 + j = k + (j + 1) by omega]⟩
section
variable {P : Program} {r : Option Nat} {B : Bod} {w0 : World} {ds : List Deferred} {X : Chain → Hp → Prop} {N : Dest} {D : List (Nat × Dest)} {n : Nat} {E : Env} {h : Hp} {ops : Array Oper} {fuel : Nat} {listed : Array Bool} {sk : List Nat} {C : Hold} {i : Nat} {Q : Exit → Act → World → Prop}
theorem HoldS.nil : HoldS ops sk [] listed h := fun c hc => by cases hc
theorem HoldS.cells {a : Addr} {vs : List Value} (i : Nat) (h1 : hcells h a vs) (h2 : HoldS ops sk C listed h) : HoldS ops sk (tagged i a 0 vs ++ C) listed h := fun c hc hd => by
  rcases List.mem_append.1 hc with hc | hc
  · obtain ⟨_, j, hj, e⟩ := (mem_tagged vs 0).1 hc
    rw [e, Nat.zero_add]
    exact h1 j _ hj
  · exact h2 c hc hd
/-- The load i's cells are asked no more: j has acted, and waits for i. -/
theorem HoldS.drop {a : Addr} {vs : List Value} (i j : Nat) (h2 : HoldS ops sk C listed h) (hj : listed.getD j false = true := by kernel_rfl) (he : effB ops sk j = true := by kernel_rfl) (hd : depB ops i ops.size j = true := by kernel_rfl) :
    HoldS ops sk (tagged i a 0 vs ++ C) listed h := fun c hc hk => by
  rcases List.mem_append.1 hc with hc | hc
  · obtain ⟨hi, _⟩ := (mem_tagged vs 0).1 hc
    have := hk j hj he
    rw [hi, hd] at this
    cases this
  · exact h2 c hc hk
/-- What the load i may lean on. -/
def HoldT (C : Hold) (i : Nat) (h : Hp) : Prop := ∀ c ∈ C, c.1 = i → hcell h c.2.1 = some c.2.2
theorem HoldT.cells {a : Addr} {vs : List Value} (hh : HoldT (tagged i a 0 vs ++ C) i h) : hcells h a vs := fun j v hj =>
  hh (i, a.add j, v) (List.mem_append_left _ ((mem_tagged vs 0).2 ⟨rfl, j, hj, by simp⟩)) rfl
theorem getD_set_true {l : Array Bool} {i j : Nat} (h : (l.setIfInBounds i true).getD j false = true) : j = i ∨ l.getD j false = true := by
  by_cases e : i = j
  · exact .inl e.symm
  · right
    simpa [Array.getElem?_setIfInBounds_ne e] using h
theorem getD_set_of {l : Array Bool} {i j : Nat} (h : l.getD j false = true) : (l.setIfInBounds i true).getD j false = true := by
  by_cases e : i = j
  · subst e
    rw [Array.getD_eq_getD_getElem?] at h ⊢
    cases hl : l[i]? with
    | none => rw [hl] at h; cases h
    | some b =>
      have hlt := (Array.getElem?_eq_some_iff.1 hl).1
      simp [hlt]
  · simpa [Array.getElem?_setIfInBounds_ne e] using h
theorem HoldS.set_quiet (he : effB ops sk i = false) : HoldS ops sk C (listed.setIfInBounds i true) h ↔ HoldS ops sk C listed h := by
  constructor
  · intro hh c hc hd
    refine hh c hc fun j hj hj' => ?_
    rcases getD_set_true hj with rfl | hj
    · rw [he] at hj'; cases hj'
    · exact hd j hj hj'
  · intro hh c hc hd
    exact hh c hc fun j hj hj' => hd j (getD_set_of hj) hj'
theorem HoldS.toT (hh : HoldS ops sk C listed h) (hc : Closed ops listed) (hi : listed.getD i false = false) : HoldT C i h := fun c hcm hci => by
  refine hh c hcm fun j hj hj' => ?_
  cases hd : depB ops c.1 ops.size j with
  | false => rfl
  | true =>
    have := depB_listed hc c.1 _ j hd hj
    rw [hci, hi] at this
    cases this

/-! ### Whatever order is picked -/
def wop (P : Program) (ops : Array Oper) (Q : Exit → Act → World → Prop) (i : Nat) (M : Act → World → Prop) (a : Act) (w : World) : Prop :=
  match ops[i]? with
  | none => M a w
  | some o => if Region.wanted o (yielded ops a.tmps) then opw P o a w M Q else M (a.put o.dst undef) w
theorem wop_mono {M M' : Act → World → Prop} {a : Act} {w : World} (hm : ∀ a w, M a w → M' a w) (hh : wop P ops Q i M a w) : wop P ops Q i M' a w := by
  unfold wop at *
  split
  · exact hm _ _ (by simpa [*] using hh)
  · rename_i o ho
    simp only [ho] at hh
    split
    · rename_i hw; rw [if_pos hw] at hh; exact opw_mono hm (fun _ _ _ _ q => q) hh
    · rename_i hw; rw [if_neg hw] at hh; exact hm _ _ hh
/-- Whatever is picked from here on; behind each that is carried out, what is held holds. -/
def anyW (P : Program) (ops : Array Oper) (Q : Exit → Act → World → Prop) (sk : List Nat) (C : Hold) : Nat → Array Bool → Act → World → Prop
  | 0, listed, a, w => Region.ready .any ops listed = [] ∧ Q .normal a w
  | fuel + 1, listed, a, w =>
    (Region.ready .any ops listed = [] → Q .normal a w) ∧
    ∀ i ∈ Region.ready .any ops listed, wop P ops Q i (fun a' w' => HoldS ops sk C (listed.setIfInBounds i true) w'.heap ∧ anyW P ops Q sk C fuel (listed.setIfInBounds i true) a' w') a w
theorem anyW_in (hd : noDef ops = true) : ∀ (fuel : Nat) (listed : Array Bool) (a : Act) (w : World), anyW P ops Q sk C fuel listed a w → wpAnyIn (wd r) 0 P .any ops Q fuel listed a w
  | 0, _, _, _, hh => hh
  | fuel + 1, listed, a, w, hh => ⟨hh.1, fun i hi => by
      have h1 := hh.2 i hi
      unfold wop at h1
      unfold wpOpIn
      cases ho : ops[i]? with
      | none => simp only [ho] at h1 ⊢; exact anyW_in hd fuel _ a w h1.2
      | some o =>
        simp only [ho] at h1 ⊢
        obtain ⟨hlt, hoi⟩ := Array.getElem?_eq_some_iff.1 ho
        have hdo : isDef o.op = false := by
          have := Array.all_eq_true.1 hd i hlt
          rw [hoi] at this
          simpa using this
        split
        · rename_i hw
          rw [if_pos hw] at h1
          exact opw_in hdo (opw_mono (fun a w h => anyW_in hd fuel _ a w h.2) (fun _ _ _ _ q => q) h1)
        · rename_i hw
          rw [if_neg hw] at h1
          exact ⟨fun _ _ => trivial, anyW_in hd fuel _ _ w h1.2⟩⟩
theorem anyW_hold {C' : Hold} : ∀ (fuel : Nat) (listed : Array Bool) (a : Act) (w : World), anyW P ops Q sk (C' ++ C) fuel listed a w → anyW P ops Q sk C fuel listed a w
  | 0, _, _, _, hh => hh
  | fuel + 1, _, _, _, hh => ⟨hh.1, fun i hi => wop_mono (fun a' w' h' => ⟨fun c hc => h'.1 c (List.mem_append_right _ hc), anyW_hold fuel _ a' w' h'.2⟩) (hh.2 i hi)⟩
/-- It yields v wherever what the load i leans on holds; or it is passed over. -/
def YldT (P : Program) (ops : Array Oper) (C : Hold) (i : Nat) (o : Oper) (v : Value) (a : Act) : Prop :=
  (Region.wanted o (yielded ops a.tmps) = true ∧ ∀ w, HoldT C i w.heap → (execOp a.eval o).run P w = .ok (.value v) w) ∨ (Region.wanted o (yielded ops a.tmps) = false ∧ v = undef)
theorem YldT.wop {oi : Oper} {v : Value} {a : Act} {w : World} {M : Act → World → Prop} (ho : ops[i]? = some oi) (hy : YldT P ops C i oi v a) (ht : HoldT C i w.heap) (hm : M (a.put oi.dst v) w) : Go.Proofs.YtefbonjcpdjhcaaGreatDoor.X.wop P ops Q i M a w := by
  unfold Go.Proofs.YtefbonjcpdjhcaaGreatDoor.X.wop
  simp only [ho]
  rcases hy with ⟨hw, hv⟩ | ⟨hw, rfl⟩
  · rw [if_pos hw]; unfold opw; rw [hv w ht]; exact hm
  · rw [if_neg (by rw [hw]; simp)]; exact hm
theorem YldT.of_same {o : Oper} {v : Value} {a a' : Act} (hy : YldT P ops C i o v a) (he : execOp a'.eval o = execOp a.eval o)
    (hw : Region.wanted o (yielded ops a'.tmps) = Region.wanted o (yielded ops a.tmps)) : YldT P ops C i o v a' := by
  unfold YldT at *
  rw [he, hw]
  exact hy
/-- An operation j apart from oi does not mind whether oi's value is already there. -/
theorem wop_put {j : Nat} {oi oj : Oper} {v : Value} {M : Act → World → Prop} {a : Act} {w : World} (hj : ops[j]? = some oj) (hap : oi.apart ops oj = true) (hsi : ∀ cs b, oi.op ≠ .select cs b) (hsj : ∀ cs b, oj.op ≠ .select cs b)
    (hQ : ∀ c a w, Q (.panic c) (a.put oi.dst v) w → Q (.panic c) a w) (hy : YldT P ops C i oi v a) (hh : wop P ops Q j M (a.put oi.dst v) w) :
    wop P ops Q j (fun a' w' => YldT P ops C i oi v a' ∧ M (a'.put oi.dst v) w') a w := by
  obtain ⟨h1, h2, h3⟩ := Oper.apart_spec hap
  have keep : ∀ (a : Act), YldT P ops C i oi v a → ∀ u, YldT P ops C i oi v (a.put oj.dst u) := fun a hy u => hy.of_same (execOp_put oi hsi a oj.dst u h3) (wanted_put oi a oj.dst u h3)
  unfold wop at *
  simp only [hj] at *
  rw [wanted_put oj a oi.dst v h1] at hh
  split
  · rename_i hw
    rw [if_pos hw] at hh
    unfold opw at *
    rw [execOp_put oj hsj a oi.dst v h1] at hh
    generalize (execOp a.eval oj).run P w = r at *
    cases r with
    | ok x w' =>
      cases x <;> simp only [Oper.uponIn] at hh ⊢
      case value u => exact ⟨keep a hy u, by rw [← Act.put_comm a v u h2]; exact hh⟩
      case skip => exact ⟨keep a hy _, by rw [← Act.put_comm a v undef h2]; exact hh⟩
      case defer d => exact ⟨(keep a hy undef).of_same (by cases oj.dst <;> rfl) (by cases oj.dst <;> rfl), by
          have : ({ a with defers := d :: a.defers }.put oj.dst undef).put oi.dst v = { (a.put oi.dst v) with defers := d :: (a.put oi.dst v).defers }.put oj.dst undef := by
            rw [← Act.put_comm _ v undef h2]
            cases oi.dst <;> rfl
          rw [this]; exact hh⟩
      case enter f args =>
        refine ⟨hh.1, CallsIn.mono hh.2 fun e w'' he => ?_⟩
        cases e with
        | returned u => exact ⟨keep a hy u, by rw [← Act.put_comm a v u h2]; exact he⟩
        | panicked c => exact hQ _ _ _ he
        | outgrown => exact he
      case row row args => exact ⟨hh.1, RowsIn.mono hh.2 fun u w'' he => ⟨keep a hy u, by rw [← Act.put_comm a v u h2]; exact he⟩⟩
      case round l f tmps assign body =>
        refine ⟨hh.1, RoundIn.mono hh.2 fun e w'' he => ?_⟩
        cases e with
        | returned u => exact ⟨keep a hy u, by rw [← Act.put_comm a v u h2]; exact he⟩
        | panicked c => exact hQ _ _ _ he
        | outgrown => exact he
    | halt x w' =>
      cases x <;> simp only [Oper.uponIn] at hh ⊢
      case panic u => exact hQ _ _ _ hh
  · rename_i hw
    rw [if_neg hw] at hh
    exact ⟨keep a hy _, by rw [← Act.put_comm a v undef h2]; exact hh⟩
theorem closed_set (hc : Closed ops listed) (hi : i ∈ Region.ready .any ops listed) : Closed ops (listed.setIfInBounds i true) := by
  intro j o ho hj e he hb
  rcases getD_set_true hj with rfl | hj
  · obtain ⟨_, oj, hoj, hall⟩ := mem_ready.1 hi
    rw [ho] at hoj
    injection hoj with hoj
    subst hoj
    exact getD_set_of (hall e he hb)
  · exact getD_set_of (hc j o ho hj e he hb)
/-- An operation that only reads may be taken first. -/
theorem anyW_first {oi : Oper} {v : Value} (ho : ops[i]? = some oi) (hsel : ∀ (j : Nat) (o : Oper) cs b, ops[j]? = some o → o.op ≠ .select cs b) (he : effB ops sk i = false)
    (hQ : ∀ c a w, Q (.panic c) (a.put oi.dst v) w → Q (.panic c) a w) :
    ∀ (fuel : Nat) (listed : Array Bool) (a : Act) (w : World),
      (∀ j oj, ops[j]? = some oj → j ≠ i → listed.getD j true = false → (∀ e ∈ oj.after, Region.binds .any e = true → e.on ≠ i) → oi.apart ops oj = true) →
      i ∈ Region.ready .any ops listed → Closed ops listed → YldT P ops C i oi v a → HoldS ops sk C listed w.heap →
      anyW P ops Q sk C fuel (listed.setIfInBounds i true) (a.put oi.dst v) w → anyW P ops Q sk C (fuel + 1) listed a w := by
  intro fuel
  have hun : ∀ listed : Array Bool, i ∈ Region.ready .any ops listed → listed.getD i false = false := fun listed hi => by
    have := (mem_ready.1 hi).1
    rw [Array.getD_eq_getD_getElem?] at this ⊢
    cases hl : listed[i]? with
    | none => rfl
    | some b => rw [hl] at this; simpa using this
  induction fuel with
  | zero =>
    intro listed a w _ hr hc hy hS H
    refine ⟨fun hx => (by rw [hx] at hr; cases hr), fun j hj => ?_⟩
    by_cases hji : j = i
    · subst hji; exact hy.wop ho (hS.toT hc (hun _ hr)) ⟨(HoldS.set_quiet he).2 hS, H⟩
    · have := ready_mono hj hji
      rw [H.1] at this
      cases this
  | succ fuel ih =>
    intro listed a w hfree hr hc hy hS H
    refine ⟨fun hx => (by rw [hx] at hr; cases hr), fun j hj => ?_⟩
    by_cases hji : j = i
    · subst hji; exact hy.wop ho (hS.toT hc (hun _ hr)) ⟨(HoldS.set_quiet he).2 hS, H⟩
    · have h1 := H.2 j (ready_mono hj hji)
      obtain ⟨hjun, oj, hoj, hall⟩ := mem_ready.1 hj
      have hnot : ∀ e ∈ oj.after, Region.binds .any e = true → e.on ≠ i := fun e he' hb heq => by
        have h1 := hall e he' hb
        have h0 := (mem_ready.1 hr).1
        rw [heq] at h1
        rcases Nat.lt_or_ge i listed.size with h' | h'
        · simp [h'] at h0 h1; rw [h0] at h1; cases h1
        · simp [Array.getElem?_eq_none h'] at h1
      have h2 := wop_put hoj (hfree j oj hoj hji hjun hnot) (fun cs b => hsel i oi cs b ho) (fun cs b => hsel j oj cs b hoj) hQ hy h1
      have hfree' : ∀ k ok, ops[k]? = some ok → k ≠ i → (listed.setIfInBounds j true).getD k true = false →
          (∀ e ∈ ok.after, Region.binds .any e = true → e.on ≠ i) → oi.apart ops ok = true := fun k ok hk hki hunk hno => by
        refine hfree k ok hk hki ?_ hno
        by_cases hjk : j = k
        · subst hjk; exact hjun
        · rw [getD_set_ne true hjk] at hunk; exact hunk
      refine wop_mono (fun a' w' h3 => ?_) h2
      have hS' : HoldS ops sk C (listed.setIfInBounds j true) w'.heap := by
        have := h3.2.1
        rw [Array.setIfInBounds_comm _ _ (fun e => hji e.symm)] at this
        exact (HoldS.set_quiet he).1 this
      refine ⟨hS', ih (listed.setIfInBounds j true) a' w' hfree' (ready_mono hr (Ne.symm hji)) (closed_set hc hj) h3.1 hS' ?_⟩
      rw [Array.setIfInBounds_comm _ _ hji]
      exact h3.2.2

/-! ### The judgement -/
def JD (P : Program) (B : Bod) (w0 : World) (ds : List Deferred) (N : Dest) (D : List (Nat × Dest)) (n : Nat) (ops : Array Oper) (fuel : Nat) (listed : Array Bool) (sk : List Nat) (C : Hold) (E : Env) (h : Hp) : Prop :=
  Closed ops listed → HoldS ops sk C listed h → ∀ a w, Ag ds n E a → Wd w0 h w → anyW P ops (QD B N D) sk C fuel listed a w
/-- A panic is handed on whatever the slots hold. -/
def PanFree (B : Bod) (d : Option Tmp) : Prop := ∀ c a v w, B.pan c (a.put d v) w → B.pan c a w
theorem panFree_s {fn : Func} {K : Value → Hp → Prop} {d : Option Tmp} : PanFree (sbod P fn w0 K X) d := fun c a v w q => ⟨by cases d <;> exact q.1, q.2⟩
theorem panFree_no {ret : Dest} {d : Option Tmp} : PanFree ⟨ret, fun _ _ _ => False⟩ d := fun _ _ _ _ q => q
section
variable {fn : Func} {K : Value → Hp → Prop}
/-! Results do not lie in the slots that a drawn region writes. -/
def resFree (fn : Func) (d : Option Tmp) : Bool :=
  match d with
  | none => true
  | some d => fn.results.toList.all fun
    | .tmp t => !(Nat.beq t d)
    | .cell t _ => !(Nat.beq t d)
theorem leaves_tmps {tm tm' : Array Value} {R : Ending → World → Prop} (he : results fn tm = results fn tm') : ∀ (ds : List Deferred) (u : FrameMode) (w : World), LeavesInM (wd none) 0 P fn tm R ds u w → LeavesInM (wd none) 0 P fn tm' R ds u w
  | [], u, w, hh => by
    cases u with
    | returning => unfold LeavesInM LeavesIn at *; rw [← he]; exact hh
    | panicking c => exact hh
    | run => exact hh
  | d :: ds, u, w, hh => by
    obtain ⟨h0, hh⟩ := hh
    refine ⟨h0, ?_⟩
    rcases hh with ⟨r, w', h1, h2, h3⟩ | ⟨h1, fv, cap, f, args, h2, h3, h4, h5⟩
    · exact .inl ⟨r, w', h1, h2, leaves_tmps he ds u w' h3⟩
    · refine .inr ⟨h1, fv, cap, f, args, h2, h3, h4, h5.mono fun e u' w' hq => ?_⟩
      cases e with
      | returned v => exact leaves_tmps he ds _ w' hq
      | panicked c => exact leaves_tmps he ds _ w' hq
      | outgrown => exact hq
theorem panFree_f {d : Option Tmp} (hr : resFree fn d = true := by kernel_rfl) : PanFree (fbod P fn w0 K X) d := fun c a v w q => by
  cases d with
  | none => exact q
  | some d =>
    refine leaves_tmps (tm := (a.put (some d) v).tmps) ?_ _ _ w q
    unfold results
    have key : ∀ (rv : ResultVar), rv ∈ fn.results.toList → (match rv with | .tmp t => t | .cell t _ => t) ≠ d := fun rv hrv => by
      have := List.all_eq_true.1 hr rv hrv
      intro e
      subst e
      cases rv <;> simp at this
    have hget : ∀ t, t ≠ d → (a.put (some d) v).tmps.getD t undef = a.tmps.getD t undef := fun t ht => by
      simp [Act.put, Array.getElem?_setIfInBounds_ne (Ne.symm ht)]
    have hm : ∀ (l : List ResultVar), (∀ rv ∈ l, (match rv with | .tmp t => t | .cell t _ => t) ≠ d) →
        l.mapM (m := Sem) (fun | .tmp t => pure ((a.put (some d) v).tmps.getD t undef) | .cell c t => do loadVar t (← asAddr ((a.put (some d) v).tmps.getD c undef))) =
        l.mapM (m := Sem) (fun | .tmp t => pure (a.tmps.getD t undef) | .cell c t => do loadVar t (← asAddr (a.tmps.getD c undef))) := by
      intro l
      induction l with
      | nil => intro _; rfl
      | cons rv l ih =>
        intro hl
        rw [List.mapM_cons, List.mapM_cons, ih fun r hr => hl r (List.mem_cons_of_mem _ hr)]
        have h1 := hl rv (List.mem_cons_self ..)
        cases rv with
        | tmp t => simp only [hget t h1]
        | cell t ty => simp only [hget t h1]
    rw [Array.mapM_eq_mapM_toList, Array.mapM_eq_mapM_toList]
    exact congrArg (fun (s : Sem (List Value)) => (do let vs ← List.toArray <$> s; pure (if h : vs.size = 1 then vs[0] else Value.tuple vs) : Sem Value)) (hm _ key)
end
theorem closed_none (m : Nat) : Closed ops (Array.replicate m false) := fun j o _ hj => by
  rw [Array.getD_eq_getD_getElem?, Array.getElem?_replicate] at hj
  split at hj <;> cases hj
theorem JC.regionD {id : Nat} (m : Nat) (hs : ops.size = m) (hm : P.follows .mixedOrders = true) (hd : noDef ops = true) (hh : JD P B w0 ds N D n ops m (Array.replicate m false) [] [] E h) : JC P r B w0 ds N D n (.region id ops true) E h := by
  subst hs
  exact fun a w ha hw => wpIn_region_any hm (anyW_in hd _ _ _ _ (hh (closed_none _) HoldS.nil a _ ha hw.drew))
theorem JD.done (hr : Region.ready .any ops listed = []) (hh : JK w0 ds n N E h) : JD P B w0 ds N D n ops fuel listed sk C E h :=
  fun _ _ a w ha hw => by
    cases fuel with
    | zero => exact ⟨hr, hh a w ha hw⟩
    | succ fuel => exact ⟨fun _ => hh a w ha hw, by rw [hr]; simp⟩
/-- More cells that stay as they are. -/
theorem JD.hold {C' : Hold} (hc : HoldS ops sk C listed h → HoldS ops sk (C' ++ C) listed h) (hh : JD P B w0 ds N D n ops fuel listed sk (C' ++ C) E h) : JD P B w0 ds N D n ops fuel listed sk C E h :=
  fun hcl hC a w ha hw => anyW_hold fuel listed a w (hh hcl (hc hC) a w ha hw)
theorem JD.take_ {o : Oper} {v : Value} (hB : PanFree B o.dst) (ho : ops[i]? = some o) (hs : Region.noSelect ops = true) (hf : Region.free .any ops listed i = true) (hr : (Region.ready .any ops listed).contains i = true) (he : effB ops sk i = false)
    (hd : dstOk n o.dst = true) (hy : ∀ a, Ag ds n E a → YldT P ops C i o v a)
    (hh : JD P B w0 ds N D n ops fuel (listed.setIfInBounds i true) sk C (eput o.dst v E) h) : JD P B w0 ds N D n ops (fuel + 1) listed sk C E h := by
  intro hcl hC a w ha hw
  have hmem : i ∈ Region.ready .any ops listed := by simpa using hr
  refine anyW_first ho (Region.noSelect_spec hs) he (fun c a w q => hB c a _ w q) fuel listed a w (Region.free_spec ho hf) hmem hcl (hy a ha) (by rw [hw.heap]; exact hC)
    (hh (closed_set hcl hmem) ((HoldS.set_quiet he).2 hC) _ w (ha.put v hd) hw)
theorem JD.take {o : Oper} {v : Value} (hB : PanFree B o.dst) (ho : ops[i]? = some o) (hs : Region.noSelect ops = true) (hf : Region.free .any ops listed i = true) (hr : (Region.ready .any ops listed).contains i = true) (he : effB ops sk i = false)
    (hd : dstOk n o.dst = true) (hw : wantedE ops E o = some true) (hy : Yld P o E (HoldT C i) v)
    (hh : JD P B w0 ds N D n ops fuel (listed.setIfInBounds i true) sk C (eput o.dst v E) h) : JD P B w0 ds N D n ops (fuel + 1) listed sk C E h :=
  JD.take_ hB ho hs hf hr he hd (fun a ha => .inl ⟨wanted_of ha hw, fun w hw => hy ds n a w ha hw⟩) hh
theorem effB_cons {j k : Nat} (he : effB ops (i :: sk) j = true) : effB ops sk j = true := by
  unfold effB at *
  simp only [List.contains_cons, Bool.and_eq_true, Bool.not_eq_true', Bool.or_eq_false_iff] at *
  exact ⟨he.1.2, he.2⟩
theorem effB_self : effB ops (i :: sk) i = false := by unfold effB; simp
theorem HoldS.more (hh : HoldS ops (i :: sk) C listed h) : HoldS ops sk C listed h := fun c hc hd => hh c hc fun j hj he => hd j hj (effB_cons (k := 0) he)
theorem HoldS.less (hi : listed.getD i false = false) (hh : HoldS ops sk C listed h) : HoldS ops (i :: sk) C listed h := fun c hc hd => hh c hc fun j hj he => by
  by_cases e : j = i
  · subst e; rw [hi] at hj; cases hj
  · refine hd j hj ?_
    unfold effB at *
    simp only [List.contains_cons, Bool.and_eq_true, Bool.not_eq_true', Bool.or_eq_false_iff] at *
    exact ⟨⟨by simpa using e, he.1⟩, he.2⟩
theorem anyW_more : ∀ (fuel : Nat) (listed : Array Bool) (a : Act) (w : World), anyW P ops Q (i :: sk) C fuel listed a w → anyW P ops Q sk C fuel listed a w
  | 0, _, _, _, hh => hh
  | fuel + 1, _, _, _, hh => ⟨hh.1, fun j hj => wop_mono (fun a' w' h' => ⟨h'.1.more, anyW_more fuel _ a' w' h'.2⟩) (hh.2 j hj)⟩
theorem ready_unlisted (hi : i ∈ Region.ready .any ops listed) : listed.getD i false = false := by
  have := (mem_ready.1 hi).1
  rw [Array.getD_eq_getD_getElem?] at this ⊢
  cases hl : listed[i]? with
  | none => rfl
  | some b => rw [hl] at this; simpa using this
theorem JD.skip {o : Oper} (hB : PanFree B o.dst) (ho : ops[i]? = some o) (hs : Region.noSelect ops = true) (hf : Region.free .any ops listed i = true) (hr : (Region.ready .any ops listed).contains i = true)
    (hd : dstOk n o.dst = true) (hw : wantedE ops E o = some false)
    (hh : JD P B w0 ds N D n ops fuel (listed.setIfInBounds i true) (i :: sk) C (eput o.dst undef E) h) : JD P B w0 ds N D n ops (fuel + 1) listed sk C E h := by
  have h1 : JD P B w0 ds N D n ops (fuel + 1) listed (i :: sk) C E h := JD.take_ hB ho hs hf hr effB_self hd (fun a ha => .inr ⟨wanted_of ha hw, rfl⟩) hh
  intro hcl hC a w ha hwd
  exact anyW_more _ _ a w (h1 hcl (hC.less (ready_unlisted (by simpa using hr))) a w ha hwd)
/-- An operation that acts, where no other may come up. -/
theorem JD.only {o : Oper} (ho : ops[i]? = some o) (hr : Region.ready .any ops listed = [i]) (hd : dstOk n o.dst = true) (hw : wantedE ops E o = some true)
    (hh : OpOk P n w0 ds (QD B N D) o E h fun v h' => HoldS ops sk C (listed.setIfInBounds i true) h' ∧ JD P B w0 ds N D n ops fuel (listed.setIfInBounds i true) sk C (eput o.dst v E) h') : JD P B w0 ds N D n ops (fuel + 1) listed sk C E h := by
  intro hcl hC a w ha hwd
  have hcl' : Closed ops (listed.setIfInBounds i true) := closed_set hcl (by rw [hr]; simp)
  refine ⟨(fun hx => by rw [hr] at hx; cases hx), fun j hj => ?_⟩
  rw [hr] at hj
  obtain rfl : j = i := by simpa using hj
  unfold wop
  simp only [ho]
  rw [if_pos (wanted_of ha hw)]
  refine opw_mono ?_ (fun _ _ _ _ q => q) (hh a w ha hwd)
  rintro a' w' ⟨v, h', rfl, hw', hC', hk⟩
  exact ⟨by rw [hw'.heap]; exact hC', hk hcl' hC' _ _ (ha.put v hd) hw'⟩
/-- Two operations that act, in either order. -/
theorem JD.two {j : Nat} {o o' : Oper} (ho : ops[i]? = some o) (ho' : ops[j]? = some o') (hr : Region.ready .any ops listed = [i, j]) (hd : dstOk n o.dst = true) (hd' : dstOk n o'.dst = true) (hw : wantedE ops E o = some true) (hw' : wantedE ops E o' = some true)
    (hh : OpOk P n w0 ds (QD B N D) o E h fun v h' => HoldS ops sk C (listed.setIfInBounds i true) h' ∧ JD P B w0 ds N D n ops fuel (listed.setIfInBounds i true) sk C (eput o.dst v E) h')
    (hh' : OpOk P n w0 ds (QD B N D) o' E h fun v h' => HoldS ops sk C (listed.setIfInBounds j true) h' ∧ JD P B w0 ds N D n ops fuel (listed.setIfInBounds j true) sk C (eput o'.dst v E) h') : JD P B w0 ds N D n ops (fuel + 1) listed sk C E h := by
  intro hcl hC a w ha hwd
  refine ⟨(fun hx => by rw [hr] at hx; cases hx), fun m hm => ?_⟩
  have hcl' : Closed ops (listed.setIfInBounds m true) := closed_set hcl hm
  rw [hr] at hm
  rcases List.mem_cons.1 hm with rfl | hm
  · unfold wop
    simp only [ho]
    rw [if_pos (wanted_of ha hw)]
    refine opw_mono ?_ (fun _ _ _ _ q => q) (hh a w ha hwd)
    rintro a' w' ⟨v, h', rfl, hw', hC', hk⟩
    exact ⟨by rw [hw'.heap]; exact hC', hk hcl' hC' _ _ (ha.put v hd) hw'⟩
  · obtain rfl : m = j := by simpa using hm
    unfold wop
    simp only [ho']
    rw [if_pos (wanted_of ha hw')]
    refine opw_mono ?_ (fun _ _ _ _ q => q) (hh' a w ha hwd)
    rintro a' w' ⟨v, h', rfl, hw', hC', hk⟩
    exact ⟨by rw [hw'.heap]; exact hC', hk hcl' hC' _ _ (ha.put v hd') hw'⟩
theorem JD.cases {t : Nat} (b : Bool) (ht : look E t = some (.bool b)) (h1 : b = true → JD P B w0 ds N D n ops fuel listed sk C ((t, .bool true) :: E) h)
    (h2 : b = false → JD P B w0 ds N D n ops fuel listed sk C ((t, .bool false) :: E) h) : JD P B w0 ds N D n ops fuel listed sk C E h := by
  intro hcl hC a w ha hw
  cases hb : b with
  | true => exact h1 hb hcl hC a w (ha.case ht hb) hw
  | false => exact h2 hb hcl hC a w (ha.case ht hb) hw
end
end Go.Proofs.YtefbonjcpdjhcaaGreatDoor.X
