/- A part of the proof: The card of ScriptReads: for every text that the form allows, the law returns true and leaves its argument as it was; the listed package-level variables of Go's library hold what their initialisers lay. -/
import Derived.WalkKit
import Derived.OrdersIn
import Derived.RangeFuncLeaves
import Derived.LoopIn
import Derived.KernelRfl
import Derived.Deep.LoopGhost
import Derived.Test.YtefbonjcpdjhcaaGreatDoorProg
/- The base of stage 1: a judgement over what is known of a frame, and one lemma for each kind of operation of the model. No statement of the program here. -/
set_option linter.unusedVariables false
namespace Go.Proofs.YtefbonjcpdjhcaaGreatDoor.X
open Go Go.RowKit

abbrev Hp := Array Obj
abbrev Env := List (Nat × Value)

def look : Env → Nat → Option Value
  | [], _ => none
  | p :: E, t => match Nat.beq p.1 t with
    | true => some p.2
    | false => look E t

def ev (E : Env) : Operand → Value
  | .tmp t => match look E t with
    | some v => v
    | none => undef
  | .const v => v
  | .global g => .pointer (some ⟨g, 0, none⟩)
  | .func f => .func (.func f) #[] #[]

/-- What is known of a frame. -/
structure Ag (ds : List Deferred) (n : Nat) (E : Env) (a : Act) : Prop where
  size : a.tmps.size = n
  defers : a.defers = ds
  vals : ∀ t v, look E t = some v → a.tmps.getD t undef = v

/-- The world is w0, but for its heap and its draws. -/
structure Wd (w0 : World) (h : Hp) (w : World) : Prop where
  heap : w.heap = h
  os : w.os = w0.os
  tape : w.tape = w0.tape
  output : w.output = w0.output

theorem Wd.refl (w : World) : Wd w w.heap w := ⟨rfl, rfl, rfl, rfl⟩
theorem Wd.drew {w0 w : World} {h : Hp} {n : Nat} (k : Wd w0 h w) : Wd w0 h { w with drawn := n } := ⟨k.heap, k.os, k.tape, k.output⟩
theorem Wd.to {w0 w w' : World} {h h' : Hp} (k : Wd w0 h w) (k' : Wd w h' w') : Wd w0 h' w' :=
  ⟨k'.heap, k'.os.trans k.os, k'.tape.trans k.tape, k'.output.trans k.output⟩

def knownO (E : Env) : Operand → Bool
  | .tmp t => (look E t).isSome
  | _ => true
def isSel : Op → Bool
  | .select _ _ => true
  | _ => false
def isDef : Op → Bool
  | .defer _ => true
  | _ => false
def known (E : Env) (o : Oper) : Bool := o.op.operands.toList.all (knownO E) && !isSel o.op

theorem Ag.evl {ds : List Deferred} {n : Nat} {E : Env} {a : Act} (g : Ag ds n E a) {x : Operand} (hk : knownO E x = true) : a.eval x = X.ev E x := by
  cases x with
  | tmp t =>
    simp only [knownO] at hk
    simp only [Act.eval, X.ev]
    cases hl : look E t with
    | none => rw [hl] at hk; cases hk
    | some v => exact g.vals t v hl
  | _ => rfl

theorem Ag.exec {ds : List Deferred} {n : Nat} {E : Env} {a : Act} (g : Ag ds n E a) {o : Oper} (hk : known E o = true) : execOp a.eval o = execOp (X.ev E) o := by
  unfold known at hk
  rw [Bool.and_eq_true] at hk
  refine execOp_congr o (fun cs b hs => ?_) fun x hx => g.evl ?_
  · have := hk.2; rw [hs] at this; cases this
  · exact List.all_eq_true.1 hk.1 x (by simpa using hx)

theorem beq_ne {a b : Nat} (h : a ≠ b) : Nat.beq a b = false := by
  cases hb : Nat.beq a b with
  | false => rfl
  | true => exact absurd (Nat.eq_of_beq_eq_true hb) h

theorem look_cons_ne {d t : Nat} {v : Value} {E : Env} (h : d ≠ t) : look ((d, v) :: E) t = look E t := by
  simp only [look, beq_ne h]
theorem look_cons_eq {d : Nat} {v : Value} {E : Env} : look ((d, v) :: E) d = some v := by
  simp only [look, Nat.beq_refl]

/-- The environment behind an operation with this destination. -/
def eput (d : Option Tmp) (v : Value) (E : Env) : Env :=
  match d with
  | some d => (d, v) :: E
  | none => E
def dstOk (n : Nat) : Option Tmp → Bool
  | some d => Nat.blt d n
  | none => true

theorem Ag.put {ds : List Deferred} {n : Nat} {E : Env} {a : Act} (g : Ag ds n E a) {d : Option Tmp} (v : Value) (hd : dstOk n d = true) : Ag ds n (eput d v E) (a.put d v) := by
  cases d with
  | none => exact g
  | some d =>
    have hlt : d < n := by
      have : Nat.blt d n = true := hd
      unfold Nat.blt at this
      exact Nat.le_of_ble_eq_true this
    refine ⟨by simp [Act.put, g.size], by simp [Act.put, g.defers], fun t u hu => ?_⟩
    by_cases e : d = t
    · subst e
      rw [show look (eput (some d) v E) d = some v from look_cons_eq] at hu
      injection hu with hu
      subst hu
      simp [Act.put, g.size, hlt]
    · rw [show look (eput (some d) v E) t = look E t from look_cons_ne e] at hu
      rw [← g.vals t u hu]
      simp [Act.put, Array.getElem?_setIfInBounds_ne e]

/-- E' says no more than E. -/
def Sub (E E' : Env) : Prop := ∀ t v, look E' t = some v → look E t = some v
theorem Ag.sub {ds : List Deferred} {n : Nat} {E E' : Env} {a : Act} (g : Ag ds n E a) (h : Sub E E') : Ag ds n E' a := ⟨g.size, g.defers, fun t v hv => g.vals t v (h t v hv)⟩
theorem Sub.of {E E' : Env} (h : E'.map (fun p => look E p.1) = E'.map (fun p => some p.2)) : Sub E E' := by
  induction E' with
  | nil => intro t v hv; cases hv
  | cons p r ih =>
    simp only [List.map_cons, List.cons.injEq] at h
    intro t v hv
    by_cases e : p.1 = t
    · subst e
      rw [show look (p :: r) p.1 = some p.2 from look_cons_eq] at hv
      injection hv with hv
      rw [h.1, hv]
    · rw [show look (p :: r) t = look r t from look_cons_ne e] at hv
      exact ih h.2 t v hv
theorem Sub.refl (E : Env) : Sub E E := fun _ _ h => h

/-! ### The heap -/
def hcell (h : Hp) (a : Addr) : Option Value :=
  match h[a.block]? with
  | some (.cells c _ _) => if a.spot.isSome then none else c[a.off]?
  | _ => none
def hfrozen (h : Hp) (a : Addr) : Bool :=
  match h[a.block]? with
  | some (.cells _ _ (lo, hi)) => lo ≤ a.off && a.off < hi
  | _ => false
def hset (h : Hp) (a : Addr) (v : Value) : Hp :=
  h.modify a.block fun
    | .cells c elem frozen => .cells (if a.spot.isSome then c else c.setIfInBounds a.off v) elem frozen
    | o => o
theorem cell_heap (w : World) (a : Addr) : w.cell? a = hcell w.heap a := rfl
/-! ### Calls, by heaps -/
abbrev Chain := List PanicEntry
def CallH (P : Program) (f : FuncId) (args : Array Value) (h : Hp) (K : Value → Hp → Prop) (X : Chain → Hp → Prop) : Prop :=
  ∀ w : World, w.heap = h → Calls P f args w fun e w' => match e with
    | .returned v => Wd w w'.heap w' ∧ K v w'.heap
    | .panicked c => Wd w w'.heap w' ∧ X c w'.heap
    | .outgrown => False
theorem CallH.mono {P : Program} {f : FuncId} {args : Array Value} {h : Hp} {K K' : Value → Hp → Prop} {X X' : Chain → Hp → Prop}
    (hc : CallH P f args h K X) (hk : ∀ v h', K v h' → K' v h') (hx : ∀ c h', X c h' → X' c h') : CallH P f args h K' X' :=
  fun w hw => (hc w hw).mono fun e w' he => by
    cases e with
    | returned v => exact ⟨he.1, hk _ _ he.2⟩
    | panicked c => exact ⟨he.1, hx _ _ he.2⟩
    | outgrown => exact he

/-! ### What a body owes -/
/-- No fence: every function, any depth; in round r, or in none. -/
def wd (r : Option Nat) : Fence := { Fence.wide with round := r }
theorem callsIn_wd {r : Option Nat} {m : Nat} {P : Program} {f : FuncId} {args : Array Value} {w : World} {R : Ending → World → Prop} : CallsIn (wd r) m P f args w R ↔ Calls P f args w R := callsIn_wide (n := m)
abbrev Dest := Act → World → Prop
/-- What is owed at a return, and at a panic. -/
structure Bod where
  ret : Dest
  pan : Chain → Dest
def dlook : List (Nat × Dest) → Nat → Option Dest
  | [], _ => none
  | (i, M) :: D, t => match Nat.beq i t with
    | true => some M
    | false => dlook D t
def QD (B : Bod) (N : Dest) (D : List (Nat × Dest)) : Exit → Act → World → Prop
  | .normal, a, w => N a w
  | .exit id, a, w => match dlook D id with
    | some M => M a w
    | none => False
  | .ret, a, w => B.ret a w
  | .panic c, a, w => B.pan c a w
  | _, _, _ => False
/-- What the caller of a function is told. -/
def RF (w0 : World) (K : Value → Hp → Prop) (X : Chain → Hp → Prop) : Ending → World → Prop
  | .returned v, w' => Wd w0 w'.heap w' ∧ K v w'.heap
  | .panicked c, w' => Wd w0 w'.heap w' ∧ X c w'.heap
  | .outgrown, _ => False
/-- A function's own body. -/
def fbod (P : Program) (fn : Func) (w0 : World) (K : Value → Hp → Prop) (X : Chain → Hp → Prop) : Bod where
  ret := fun a w => LeavesInM (wd none) 0 P fn a.tmps (RF w0 K X) a.defers .returning w
  pan := fun c a w => LeavesInM (wd none) 0 P fn a.tmps (RF w0 K X) a.defers (.panicking c) w
/-- The body of a function that defers nothing. -/
def sbod (P : Program) (fn : Func) (w0 : World) (K : Value → Hp → Prop) (X : Chain → Hp → Prop) : Bod where
  ret := fun a w => LeavesInM (wd none) 0 P fn a.tmps (RF w0 K X) a.defers .returning w
  pan := fun c a w => a.defers = [] ∧ RF w0 K X (.panicked c) w
/-- A callee's panic is handed on. -/
def PanOk (B : Bod) (w0 : World) (ds : List Deferred) (n : Nat) (E : Env) (X : Chain → Hp → Prop) : Prop := ∀ c a w h, Ag ds n E a → Wd w0 h w → X c h → B.pan c a w
theorem panOk_no {B : Bod} {w0 : World} {ds : List Deferred} {n : Nat} {E : Env} : PanOk B w0 ds n E fun _ _ => False := fun _ _ _ _ _ _ hx => hx.elim

section
variable {P : Program} {r : Option Nat} {fn : Func} {B : Bod} {w0 : World} {ds : List Deferred} {K : Value → Hp → Prop} {X : Chain → Hp → Prop} {N : Dest} {D : List (Nat × Dest)} {n : Nat} {E : Env} {h : Hp}
theorem panOk_s : PanOk (sbod P fn w0 K X) w0 [] n E X := fun c a w h hd hw hx => ⟨hd.defers, by rw [hw.heap]; exact hw, by rw [hw.heap]; exact hx⟩

/-- From what is known of the frame and the heap, this code comes to its exits. -/
def JC (P : Program) (r : Option Nat) (B : Bod) (w0 : World) (ds : List Deferred) (N : Dest) (D : List (Nat × Dest)) (n : Nat) (c : Code) (E : Env) (h : Hp) : Prop :=
  ∀ a w, Ag ds n E a → Wd w0 h w → c.wpIn (wd r) 0 P (QD B N D) a w
/-- From what is known, the destination is met. -/
def JK (w0 : World) (ds : List Deferred) (n : Nat) (N : Dest) (E : Env) (h : Hp) : Prop := ∀ a w, Ag ds n E a → Wd w0 h w → N a w

theorem JC.seq {x y : Code} (hh : JC P r B w0 ds (fun a w => y.wpIn (wd r) 0 P (QD B N D) a w) D n x E h) : JC P r B w0 ds N D n (.seq x y) E h :=
  fun a w ha hw => wpIn_seq (wpIn_mono (hh a w ha hw) fun e a w q => by cases e <;> exact q)
theorem JC.next {y : Code} (hh : JC P r B w0 ds N D n y E h) : JK w0 ds n (fun a w => y.wpIn (wd r) 0 P (QD B N D) a w) E h := hh
theorem JC.skip (hh : JK w0 ds n N E h) : JC P r B w0 ds N D n .skip E h := fun a w ha hw => wpIn_skip (hh a w ha hw)
theorem stepR_scope {b : Frame} {a : Act} {k : List Item} {cs : List Frame} {w : World} {c : Code} : step P (lone (b.atR a (.code (.scope c) :: k)) cs w) = .next (lone (b.atR a (.code c :: .inScope c :: k)) cs w) :=
  step_lone_go (by simp [stepG, stepG.exec, Frame.atR])
theorem stepR_inScope {b : Frame} {a : Act} {k : List Item} {cs : List Frame} {w : World} {c : Code} : step P (lone (b.atR a (.inScope c :: k)) cs w) = .next (lone (b.atR a k) cs w) :=
  step_lone_go (by simp [stepG, stepG.exec, Frame.atR])
def noGo (Q : Exit → Act → World → Prop) : Exit → Act → World → Prop
  | .goto _, _, _ => False
  | e, a, w => Q e a w
theorem wpIn_scope {F : Fence} {m : Nat} {Q : Exit → Act → World → Prop} {a : Act} {w : World} {c : Code} (hh : c.wpIn F m P (noGo Q) a w) : (Code.scope c).wpIn F m P Q a w := by
  intro b k cs hro hb hr
  have h0 : (lone (b.atR a (.code (.scope c) :: k)) cs w).fenced P F := fenced_calm hb hr rfl
  obtain ⟨e, a₁, w₁, hq, harr⟩ := hh b (.inScope c :: k) cs hro hb hr
  cases e with
  | normal => exact ⟨.normal, a₁, w₁, hq, .head h0 stepR_scope (StepsIn.trans harr (.one (fenced_calm hb hr rfl) stepR_inScope))⟩
  | exit id =>
    have hx : exitTo id (.inScope c :: k) = exitTo id k := by simp [exitTo]
    exact ⟨.exit id, a₁, w₁, hq, fun k' hk => .head h0 stepR_scope (harr.1 k' (by rw [hx]; exact hk)),
      fun hr' hk => let ⟨k₁, h1, h2⟩ := harr.2 hr' (by rw [hx]; exact hk); ⟨k₁, h1, .head h0 stepR_scope h2⟩⟩
  | goto l => exact hq.elim
  | ret => exact ⟨_, a₁, w₁, hq, .of_steps (.one h0 stepR_scope) harr⟩
  | panic ch => exact ⟨_, a₁, w₁, hq, .of_steps (.one h0 stepR_scope) harr⟩
  | outgrown => exact ⟨_, a₁, w₁, hq, .of_steps (.one h0 stepR_scope) harr⟩
theorem JC.label {l : Nat} (hh : JK w0 ds n N E h) : JC P r B w0 ds N D n (.label l) E h := fun a w ha hw => wpIn_label (hh a w ha hw)
theorem JC.scope {c : Code} (hh : JC P r B w0 ds N D n c E h) : JC P r B w0 ds N D n (.scope c) E h :=
  fun a w ha hw => wpIn_scope (wpIn_mono (hh a w ha hw) fun e a w q => by cases e <;> exact q)
theorem JC.block {id : Nat} {c : Code} (hh : JC P r B w0 ds N ((id, N) :: D) n c E h) : JC P r B w0 ds N D n (.block id c) E h :=
  fun a w ha hw => wpIn_block (wpIn_mono (hh a w ha hw) fun e a w q => by
    cases e with
    | exit i =>
      simp only [QD, dlook] at q
      simp only [Exit.inBlock]
      by_cases hi : i = id
      · subst hi
        simp only [Nat.beq_refl] at q
        rw [if_pos rfl]
        exact q
      · rw [if_neg hi]
        rw [beq_ne (fun e => hi e.symm)] at q
        exact q
    | _ => exact q)
theorem JC.exit {id : Nat} {M : Dest} (hd : dlook D id = some M) (hh : JK w0 ds n M E h) : JC P r B w0 ds N D n (.exit id) E h :=
  fun a w ha hw => wpIn_exit (by simp only [QD, hd]; exact hh a w ha hw)
theorem JC.cond {c : Operand} {x y : Code} (b : Bool) (hk : knownO E c = true) (hc : ev E c = .bool b) (ht : b = true → JC P r B w0 ds N D n x E h)
    (hf : b = false → JC P r B w0 ds N D n y E h) : JC P r B w0 ds N D n (.cond c x y) E h :=
  fun a w ha hw => wpIn_cond_split ((ha.evl hk).trans hc) (fun e => ht e a w ha hw) (fun e => hf e a w ha hw)
theorem res0 {tm : Array Value} {w : World} (hr : fn.results = #[]) : (results fn tm).run P w = .ok (.tuple #[]) w := by
  simp [results, hr]
/-- A value, with what is owed behind it: what a return comes to where nothing was deferred. -/
theorem JK.retv (hh : ∀ a w, Ag [] n E a → Wd w0 h w → ∃ v, (results fn a.tmps).run P w = .ok v w ∧ K v h) : JK w0 [] n (sbod P fn w0 K X).ret E h := by
  intro a w ha hw
  obtain ⟨v, hv, hk⟩ := hh a w ha hw
  show LeavesInM (wd none) 0 P fn a.tmps (RF w0 K X) a.defers .returning w
  rw [ha.defers]
  exact ⟨v, hv, by rw [hw.heap]; exact hw, by rw [hw.heap]; exact hk⟩
theorem JK.ret0 (hr : fn.results = #[]) (hk : K (.tuple #[]) h) : JK w0 [] n (sbod P fn w0 K X).ret E h :=
  JK.retv fun _ _ _ _ => ⟨_, res0 hr, hk⟩
theorem JC.ret (hh : JK w0 ds n B.ret E h) : JC P r B w0 ds N D n .ret E h := fun a w ha hw => wpIn_ret (hh a w ha hw)

/-- A result, out of a slot or out of a cell. -/
def RVal (P : Program) (E : Env) (h : Hp) : ResultVar → Value → Prop
  | .tmp t, v => look E t = some v
  | .cell t ty, v => ∃ p, look E t = some (.pointer (some p)) ∧ ∀ w : World, w.heap = h → (loadVar ty p).run P w = .ok v w
def RR (P : Program) (tm : Array Value) (w : World) : ResultVar → Value → Prop
  | .tmp t, v => tm.getD t undef = v
  | .cell t ty, v => ∃ p, tm.getD t undef = .pointer (some p) ∧ (loadVar ty p).run P w = .ok v w
theorem RVal.run {rv : ResultVar} {v : Value} {a : Act} {w : World} (hv : RVal P E h rv v) (ha : Ag ds n E a) (hw : w.heap = h) : RR P a.tmps w rv v := by
  cases rv with
  | tmp t => exact ha.vals _ _ hv
  | cell t ty =>
    obtain ⟨p, h1, h2⟩ := hv
    exact ⟨p, ha.vals _ _ h1, h2 w hw⟩
theorem resG1 {r1 : ResultVar} {tm : Array Value} {w : World} {v1 : Value} (hr : fn.results = #[r1]) (h1 : RR P tm w r1 v1) : (results fn tm).run P w = .ok v1 w := by
  unfold results
  rw [hr]
  cases r1 with
  | tmp t => have h1 : tm.getD t undef = v1 := h1; simp at h1; simp [h1]
  | cell t ty => obtain ⟨p, h1, h2⟩ := h1; simp at h1; simp [h1, asAddr, h2]
theorem resG2 {r1 r2 : ResultVar} {tm : Array Value} {w : World} {v1 v2 : Value} (hr : fn.results = #[r1, r2]) (h1 : RR P tm w r1 v1) (h2 : RR P tm w r2 v2) :
    (results fn tm).run P w = .ok (.tuple #[v1, v2]) w := by
  unfold results
  rw [hr]
  cases r1 with
  | tmp t =>
    have h1 : tm.getD t undef = v1 := h1
    cases r2 with
    | tmp t2 => have h2 : tm.getD t2 undef = v2 := h2; simp at h1 h2; simp [h1, h2]
    | cell t2 ty2 => obtain ⟨p2, h2, h2'⟩ := h2; simp at h1 h2; simp [h1, h2, asAddr, h2']
  | cell t ty =>
    obtain ⟨p, h1, h1'⟩ := h1
    cases r2 with
    | tmp t2 => have h2 : tm.getD t2 undef = v2 := h2; simp at h1 h2; simp [h1, h2, asAddr, h1']
    | cell t2 ty2 => obtain ⟨p2, h2, h2'⟩ := h2; simp at h1 h2; simp [h1, h2, asAddr, h1', h2']
theorem resG3 {r1 r2 r3 : ResultVar} {tm : Array Value} {w : World} {v1 v2 v3 : Value} (hr : fn.results = #[r1, r2, r3]) (h1 : RR P tm w r1 v1) (h2 : RR P tm w r2 v2) (h3 : RR P tm w r3 v3) :
    (results fn tm).run P w = .ok (.tuple #[v1, v2, v3]) w := by
  unfold results
  rw [hr]
  cases r1 with
  | tmp t =>
    have h1 : tm.getD t undef = v1 := h1
    cases r2 with
    | tmp t2 =>
      have h2 : tm.getD t2 undef = v2 := h2
      cases r3 with
      | tmp t3 => have h3 : tm.getD t3 undef = v3 := h3; simp at h1 h2 h3; simp [h1, h2, h3]
      | cell t3 ty3 => obtain ⟨p3, h3, h3'⟩ := h3; simp at h1 h2 h3; simp [h1, h2, h3, asAddr, h3']
    | cell t2 ty2 =>
      obtain ⟨p2, h2, h2'⟩ := h2
      cases r3 with
      | tmp t3 => have h3 : tm.getD t3 undef = v3 := h3; simp at h1 h2 h3; simp [h1, h2, h3, asAddr, h2']
      | cell t3 ty3 => obtain ⟨p3, h3, h3'⟩ := h3; simp at h1 h2 h3; simp [h1, h2, h3, asAddr, h2', h3']
  | cell t ty =>
    obtain ⟨p, h1, h1'⟩ := h1
    cases r2 with
    | tmp t2 =>
      have h2 : tm.getD t2 undef = v2 := h2
      cases r3 with
      | tmp t3 => have h3 : tm.getD t3 undef = v3 := h3; simp at h1 h2 h3; simp [h1, h2, h3, asAddr, h1']
      | cell t3 ty3 => obtain ⟨p3, h3, h3'⟩ := h3; simp at h1 h2 h3; simp [h1, h2, h3, asAddr, h1', h3']
    | cell t2 ty2 =>
      obtain ⟨p2, h2, h2'⟩ := h2
      cases r3 with
      | tmp t3 => have h3 : tm.getD t3 undef = v3 := h3; simp at h1 h2 h3; simp [h1, h2, h3, asAddr, h1', h2']
      | cell t3 ty3 => obtain ⟨p3, h3, h3'⟩ := h3; simp at h1 h2 h3; simp [h1, h2, h3, asAddr, h1', h2', h3']
theorem JK.retG1 {r1 : ResultVar} (v1 : Value) (hr : fn.results = #[r1]) (h1 : RVal P E h r1 v1) (hk : K v1 h) : JK w0 [] n (sbod P fn w0 K X).ret E h :=
  JK.retv fun a w ha hw => ⟨_, resG1 hr (h1.run ha hw.heap), hk⟩
theorem JK.retG2 {r1 r2 : ResultVar} (v1 v2 : Value) (hr : fn.results = #[r1, r2]) (h1 : RVal P E h r1 v1) (h2 : RVal P E h r2 v2) (hk : K (.tuple #[v1, v2]) h) : JK w0 [] n (sbod P fn w0 K X).ret E h :=
  JK.retv fun a w ha hw => ⟨_, resG2 hr (h1.run ha hw.heap) (h2.run ha hw.heap), hk⟩
theorem JK.retG3 {r1 r2 r3 : ResultVar} (v1 v2 v3 : Value) (hr : fn.results = #[r1, r2, r3]) (h1 : RVal P E h r1 v1) (h2 : RVal P E h r2 v2) (h3 : RVal P E h r3 v3) (hk : K (.tuple #[v1, v2, v3]) h) : JK w0 [] n (sbod P fn w0 K X).ret E h :=
  JK.retv fun a w ha hw => ⟨_, resG3 hr (h1.run ha hw.heap) (h2.run ha hw.heap) (h3.run ha hw.heap), hk⟩

/-- A destination given by a family of environments, and a predicate. -/
def InvP {S : Type} (w0 : World) (ds : List Deferred) (n : Nat) (Ej : S → Env) (k : S → Hp → Prop) : Dest := fun a w => ∃ s, Ag ds n (Ej s) a ∧ Wd w0 w.heap w ∧ k s w.heap
theorem JK.inv {S : Type} {Ej : S → Env} {k : S → Hp → Prop} (s : S) (hs : Sub E (Ej s)) (hk : k s h) : JK w0 ds n (InvP w0 ds n Ej k) E h :=
  fun a w ha hw => ⟨s, ha.sub hs, by rw [hw.heap]; exact hw, by rw [hw.heap]; exact hk⟩
theorem JK.from_inv {S : Type} {Ej : S → Env} {k : S → Hp → Prop} (hh : ∀ s h', k s h' → JK w0 ds n N (Ej s) h') (a : Act) (w : World) (hi : InvP w0 ds n Ej k a w) : N a w := by
  obtain ⟨s, hs, hw, hk⟩ := hi
  exact hh s _ hk a w hs hw
/-- A sequence, with a meeting point between. -/
theorem JC.join {S : Type} {x y : Code} (Ej : S → Env) (k : S → Hp → Prop) (hx : JC P r B w0 ds (InvP w0 ds n Ej k) D n x E h)
    (hy : ∀ s h', k s h' → JC P r B w0 ds N D n y (Ej s) h') : JC P r B w0 ds N D n (.seq x y) E h :=
  fun a w ha hw => wpIn_seq (wpIn_mono (hx a w ha hw) fun e a w q => by
    cases e with
    | normal => exact JK.from_inv (N := fun a w => y.wpIn (wd r) 0 P (QD B N D) a w) hy a w q
    | _ => exact q)
/-- A loop, by an invariant that bears a number which every round lowers. -/
theorem wpIn_loop_num {F : Fence} {m : Nat} {Q : Exit → Act → World → Prop} {c : Code} (I : Nat → Act → World → Prop) :
    ∀ (k : Nat) (a : Act) (w : World), I k a w → (∀ k a w, I k a w → c.wpIn F m P (Exit.then (fun a' w' => ∃ k', k' < k ∧ I k' a' w') Q) a w) → (Code.loop c).wpIn F m P Q a w := by
  intro k a w h0 round
  have hleast : ∀ a w, (∃ k, I k a w) → ∃ k, I k a w ∧ ∀ j, I j a w → k ≤ j := by
    intro a w ⟨k, hk⟩
    induction k using Nat.strongRecOn with
    | _ k ih =>
      by_cases hx : ∃ j, j < k ∧ I j a w
      · obtain ⟨j, hj, hi⟩ := hx
        exact ih j hj hi
      · exact ⟨k, hk, fun j hj => Nat.le_of_not_lt fun hlt => hx ⟨j, hlt, hj⟩⟩
  classical
  refine wpIn_loop (fun a w => ∃ k, I k a w) (fun a w => if hx : ∃ k, I k a w then Classical.choose (hleast a w hx) else 0) ⟨k, h0⟩ ?_
  intro a w hI
  have hc := Classical.choose_spec (hleast a w hI)
  refine wpIn_mono (round _ a w hc.1) fun e a' w' q => ?_
  cases e with
  | normal =>
    obtain ⟨k', hlt, hk'⟩ := q
    refine ⟨⟨k', hk'⟩, ?_⟩
    simp only [dif_pos (show ∃ k, I k a' w' from ⟨k', hk'⟩), dif_pos hI]
    have hc' := Classical.choose_spec (hleast a' w' ⟨k', hk'⟩)
    exact Nat.lt_of_le_of_lt (hc'.2 k' hk') hlt
  | _ => exact q
theorem JC.loop {S : Type} {c : Code} (Ej : S → Env) (I : S → Hp → Prop) (μ : S → Hp → Nat) (s0 : S) (hs : Sub E (Ej s0)) (h0 : I s0 h)
    (round : ∀ s h', I s h' → JC P r B w0 ds (InvP w0 ds n Ej fun s' h'' => I s' h'' ∧ μ s' h'' < μ s h') D n c (Ej s) h') : JC P r B w0 ds N D n (.loop c) E h := by
  intro a w ha hw
  refine wpIn_loop_num (fun m a w => ∃ s, Ag ds n (Ej s) a ∧ Wd w0 w.heap w ∧ I s w.heap ∧ μ s w.heap = m) (μ s0 h) a w
    ⟨s0, ha.sub hs, by rw [hw.heap]; exact hw, by rw [hw.heap]; exact h0, by rw [hw.heap]⟩ ?_
  rintro m a w ⟨s, hsa, hsw, hI, rfl⟩
  refine wpIn_mono (round s _ hI a w hsa hsw) fun e a' w' q => ?_
  cases e with
  | normal =>
    obtain ⟨s', g, k, hi, hlt⟩ := q
    exact ⟨_, hlt, s', g, k, hi, rfl⟩
  | _ => exact q
/-- The environment in which a call begins. -/
def envOf : Nat → List Value → Env
  | _, [] => []
  | i, v :: r => (i, v) :: envOf (i + 1) r
theorem look_envOf : ∀ (l : List Value) (i t : Nat) (v : Value), look (envOf i l) t = some v → ∃ k, t = i + k ∧ l[k]? = some v := by
  intro l
  induction l with
  | nil => intro i t v hv; cases hv
  | cons x r ih =>
    intro i t v hv
    by_cases e : i = t
    · subst e
      rw [show look (envOf i (x :: r)) i = some x from look_cons_eq] at hv
      exact ⟨0, rfl, by simpa using hv⟩
    · rw [show look (envOf i (x :: r)) t = look (envOf (i + 1) r) t from look_cons_ne e] at hv
      obtain ⟨k, hk, hl⟩ := ih _ _ _ hv
      exact ⟨k + 1, by omega, by simpa using hl⟩
theorem CallH.of {f : FuncId} {c : Code} {args : Array Value} (hf : P.funcs[f]? = some fn) (hb : fn.body = some c) (hn : Nat.ble args.size fn.ntmps = true)
    (hh : ∀ w0, w0.heap = h → JC P none (sbod P fn w0 K X) w0 [] (sbod P fn w0 K X).ret [] fn.ntmps c (envOf 0 args.toList) h) : CallH P f args h K X := by
  intro w hw
  have hle : args.size ≤ fn.ntmps := Nat.le_of_ble_eq_true hn
  have hag : Ag [] fn.ntmps (envOf 0 args.toList) { tmps := args ++ Array.replicate (fn.ntmps - args.size) undef, defers := [] } := by
    refine ⟨by simp; omega, rfl, fun t v hv => ?_⟩
    obtain ⟨k, hk, hl⟩ := look_envOf _ _ _ _ hv
    have hlt : k < args.size := by
      rcases Nat.lt_or_ge k args.size with h' | h'
      · exact h'
      · rw [List.getElem?_eq_none (by simpa using h')] at hl; cases hl
    obtain rfl : t = k := by omega
    have : args[t]? = some v := by rw [← hl]; simp
    simp [Array.getElem?_append_left hlt, this]
  have hc : CallsIn (wd none) 0 P f args w (RF w K X) := callsIn_of_wp_marks hf hb trivial (wpIn_mono (hh w hw _ w hag (by rw [← hw]; exact Wd.refl w)) (by
    intro e a' w' q
    cases e with
    | normal => exact q
    | ret => exact q
    | panic c =>
      show LeavesInM (wd none) 0 P fn a'.tmps (RF w K X) a'.defers (.panicking c) w'
      rw [q.1]
      exact q.2
    | exit id => exact q.elim
    | goto l => exact q.elim
    | outgrown => exact q.elim))
  refine (callsIn_wd.1 hc).mono fun e w' he => ?_
  cases e <;> exact he

theorem CallH.ofD {f : FuncId} {c : Code} {args : Array Value} (hf : P.funcs[f]? = some fn) (hb : fn.body = some c) (hn : Nat.ble args.size fn.ntmps = true)
    (hh : ∀ w0, w0.heap = h → JC P none (fbod P fn w0 K X) w0 [] (fbod P fn w0 K X).ret [] fn.ntmps c (envOf 0 args.toList) h) : CallH P f args h K X := by
  intro w hw
  have hle : args.size ≤ fn.ntmps := Nat.le_of_ble_eq_true hn
  have hag : Ag [] fn.ntmps (envOf 0 args.toList) { tmps := args ++ Array.replicate (fn.ntmps - args.size) undef, defers := [] } := by
    refine ⟨by simp; omega, rfl, fun t v hv => ?_⟩
    obtain ⟨k, hk, hl⟩ := look_envOf _ _ _ _ hv
    have hlt : k < args.size := by
      rcases Nat.lt_or_ge k args.size with h' | h'
      · exact h'
      · rw [List.getElem?_eq_none (by simpa using h')] at hl; cases hl
    obtain rfl : t = k := by omega
    have : args[t]? = some v := by rw [← hl]; simp
    simp [Array.getElem?_append_left hlt, this]
  have hc : CallsIn (wd none) 0 P f args w (RF w K X) := callsIn_of_wp_marks hf hb trivial (wpIn_mono (hh w hw _ w hag (by rw [← hw]; exact Wd.refl w)) (by
    intro e a' w' q
    cases e with
    | normal => exact q
    | ret => exact q
    | panic c => exact q
    | exit id => exact q.elim
    | goto l => exact q.elim
    | outgrown => exact q.elim))
  refine (callsIn_wd.1 hc).mono fun e w' he => ?_
  cases e <;> exact he

/-! ### Operations -/
/-- One operation, and what follows. -/
def opw (P : Program) (o : Oper) (a : Act) (w : World) (next : Act → World → Prop) (Q : Exit → Act → World → Prop) : Prop :=
  o.uponIn Fence.wide 0 P a next Q ((execOp a.eval o).run P w)
theorem opw_mono {o : Oper} {a : Act} {w : World} {N N' : Act → World → Prop} {Q Q' : Exit → Act → World → Prop} (hn : ∀ a w, N a w → N' a w) (hq : ∀ e a w, e ≠ .normal → Q e a w → Q' e a w)
    (hh : opw P o a w N Q) : opw P o a w N' Q' := by
  unfold opw at *
  generalize (execOp a.eval o).run P w = r at *
  have hl : LetsOut Q → LetsOut Q' := fun ⟨a, w, q⟩ => ⟨a, w, hq _ _ _ (by simp) q⟩
  cases r with
  | ok x w' =>
    cases x <;> simp only [Oper.uponIn] at hh ⊢ <;>
      first
        | exact hn _ _ hh
        | exact ⟨hh.1, CallsIn.mono hh.2 (fun e w'' he => by cases e <;> first | exact hn _ _ he | exact hq _ _ _ (by simp) he | exact hl he)⟩
        | exact ⟨hh.1, RowsIn.mono hh.2 (fun _ _ he => hn _ _ he)⟩
        | exact ⟨hh.1, RoundIn.mono hh.2 (fun e w'' he => by cases e <;> first | exact hn _ _ he | exact hq _ _ _ (by simp) he | exact hl he)⟩
  | halt x w' => cases x <;> simp only [Oper.uponIn] at hh ⊢ <;> first | exact hh | exact hq _ _ _ (by simp) hh
theorem semAt_exec {r : Option Nat} {ρ : Operand → Value} {o : Oper} (hd : isDef o.op = false) : o.semAt r ρ = execOp ρ o := by
  unfold Oper.semAt
  cases r with
  | none => rfl
  | some l => cases ho : o.op <;> first | rfl | (rw [ho] at hd; cases hd)
theorem opw_in {r : Option Nat} {o : Oper} {a : Act} {w : World} {N : Act → World → Prop} {Q : Exit → Act → World → Prop} (hd : isDef o.op = false) (hh : opw P o a w N Q) : o.wpIn (wd r) 0 P a w N Q :=
  ⟨fun _ _ => trivial, by rw [semAt_exec hd]; exact hh⟩
/-- In every world whose heap meets S the operation yields v, and leaves the world as it is. -/
def Yld (P : Program) (o : Oper) (E : Env) (S : Hp → Prop) (v : Value) : Prop :=
  ∀ ds n a w, Ag ds n E a → S w.heap → (execOp a.eval o).run P w = .ok (.value v) w
/-- The operation, run. -/
def OpOk (P : Program) (n : Nat) (w0 : World) (ds : List Deferred) (Q : Exit → Act → World → Prop) (o : Oper) (E : Env) (h : Hp) (k : Value → Hp → Prop) : Prop :=
  ∀ a w, Ag ds n E a → Wd w0 h w → opw P o a w (fun a' w' => ∃ v h', a' = a.put o.dst v ∧ Wd w0 h' w' ∧ k v h') Q
theorem Yld.ok {Q : Exit → Act → World → Prop} {o : Oper} {v : Value} {k : Value → Hp → Prop} (hy : Yld P o E (· = h) v) (hk : k v h) : OpOk P n w0 ds Q o E h k := by
  intro a w ha hw
  unfold opw
  rw [hy ds n a w ha hw.heap]
  exact ⟨v, h, rfl, hw, hk⟩
theorem Yld.runs_ {S : Hp → Prop} {o : Oper} {v : Value} (hk : known E o = true) (hr : ∀ w, (execOp (ev E) o).run P w = .ok (.value v) w) : Yld P o E S v :=
  fun _ _ a w ha _ => by rw [ha.exec hk]; exact hr w

/-- Does the operation run? 'none': it is not known. -/
def wantedE (ops : Array Oper) (E : Env) (o : Oper) : Option Bool :=
  match o.guard with
  | none => some true
  | some (j, want) => match (ops[j]?).bind (·.dst) with
    | none => some false
    | some t => match look E t with
      | some (.bool b) => some (b == want)
      | some (.tuple _) => some false
      | _ => none
theorem wanted_of {ops : Array Oper} {o : Oper} {b : Bool} {a : Act} (ha : Ag ds n E a) (hw : wantedE ops E o = some b) : Region.wanted o (yielded ops a.tmps) = b := by
  unfold wantedE at hw
  unfold Region.wanted
  cases hg : o.guard with
  | none => simp only [hg] at hw ⊢; injection hw
  | some p =>
    obtain ⟨j, want⟩ := p
    simp only [hg] at hw ⊢
    unfold yielded
    cases hd : (ops[j]?).bind (·.dst) with
    | none => simp only [hd] at hw ⊢; injection hw
    | some t =>
      simp only [hd] at hw ⊢
      cases hl : look E t with
      | none => simp only [hl] at hw; cases hw
      | some v =>
        have hv := ha.vals t v hl
        simp only [Option.bind_some]
        cases v with
        | bool c =>
          simp only [hl] at hw
          injection hw with hw
          have : a.tmps[t]? = some (.bool c) := by
            rw [Array.getD_eq_getD_getElem?] at hv
            cases ht : a.tmps[t]? with
            | none => rw [ht] at hv; cases hv
            | some u => rw [ht] at hv; simpa using hv
          simp only [this]
          rw [← hw]
          cases c <;> cases want <;> rfl
        | tuple vs =>
          simp only [hl] at hw
          injection hw with hw
          rw [Array.getD_eq_getD_getElem?] at hv
          cases ht : a.tmps[t]? with
          | none => simp only [← hw]; rfl
          | some u =>
            rw [ht] at hv
            simp only [Option.getD_some] at hv
            subst hv
            simp only [← hw]; rfl
        | _ => simp only [hl] at hw; cases hw

/-- The operations of a region in the text's order, and then K. -/
def opsL (P : Program) (ops : Array Oper) (Q : Exit → Act → World → Prop) : List Oper → (Act → World → Prop) → Act → World → Prop
  | [], N, a, w => N a w
  | o :: r, N, a, w => if Region.wanted o (yielded ops a.tmps) then opw P o a w (opsL P ops Q r N) Q else opsL P ops Q r N (a.put o.dst undef) w
def noDef (ops : Array Oper) : Bool := ops.all fun o => !isDef o.op
theorem opsL_in {r : Option Nat} {ops : Array Oper} {Q : Exit → Act → World → Prop} (hd : noDef ops = true) : ∀ (m k : Nat) (a : Act) (w : World), k + m = ops.size → opsL P ops Q (ops.toList.drop k) (Q .normal) a w → wpOpsIn (wd r) 0 P ops Q (List.range' k m) a w := by
  intro m
  induction m with
  | zero =>
    intro k a w hk hh
    rw [List.drop_eq_nil_of_le (by simp; omega)] at hh
    exact hh
  | succ m ih =>
    intro k a w hk hh
    have hlt : k < ops.size := by omega
    have ho : ops[k]? = some ops[k] := by simp [hlt]
    rw [List.drop_eq_getElem_cons (by simpa using hlt)] at hh
    simp only [List.range'_succ, wpOpsIn, ho]
    simp only [opsL, Array.getElem_toList] at hh
    have hdk : isDef ops[k].op = false := by
      have := Array.all_eq_true.1 hd k hlt
      simpa using this
    split
    · rename_i hw
      rw [if_pos hw] at hh
      exact opw_in hdk (opw_mono (fun a w h => ih (k + 1) a w (by omega) h) (fun _ _ _ _ q => q) hh)
    · rename_i hw
      rw [if_neg hw] at hh
      exact ⟨fun _ _ => trivial, ih (k + 1) _ _ (by omega) hh⟩
theorem opsL_mono {ops : Array Oper} {Q : Exit → Act → World → Prop} {N' : Act → World → Prop} : ∀ (l : List Oper) (a : Act) (w : World), opsL P ops Q l N a w → (∀ a w, N a w → N' a w) → opsL P ops Q l N' a w := by
  intro l
  induction l with
  | nil => exact fun a w hh hn => hn _ _ hh
  | cons o r ih =>
    intro a w hh hn
    simp only [opsL] at hh ⊢
    split
    · rename_i hw
      rw [if_pos hw] at hh
      exact opw_mono (fun a w h => ih a w h hn) (fun _ _ _ _ q => q) hh
    · rename_i hw
      rw [if_neg hw] at hh
      exact ih _ _ hh hn
theorem opsL_append {ops : Array Oper} {Q : Exit → Act → World → Prop} (l l' : List Oper) : ∀ (a : Act) (w : World), opsL P ops Q (l ++ l') N a w = opsL P ops Q l (opsL P ops Q l' N) a w := by
  induction l with
  | nil => intro a w; rfl
  | cons o r ih =>
    intro a w
    simp only [List.cons_append, opsL]
    congr 1
    · rw [show opsL P ops Q (r ++ l') N = opsL P ops Q r (opsL P ops Q l' N) from funext fun a => funext fun w => ih a w]
    · exact ih _ _

/-- From operation i up to j, and then N. -/
def JO (P : Program) (B : Bod) (w0 : World) (ds : List Deferred) (D : List (Nat × Dest)) (n : Nat) (ops : Array Oper) (N : Dest) (i j : Nat) (E : Env) (h : Hp) : Prop :=
  ∀ a w, Ag ds n E a → Wd w0 h w → opsL P ops (QD B (fun _ _ => False) D) ((ops.toList.take j).drop i) N a w
variable {ops : Array Oper} {i j : Nat}
theorem opsL_monoQ {N : Dest} {Q Q' : Exit → Act → World → Prop} (hq : ∀ e a w, e ≠ .normal → Q e a w → Q' e a w) : ∀ (l : List Oper) (a : Act) (w : World), opsL P ops Q l N a w → opsL P ops Q' l N a w := by
  intro l
  induction l with
  | nil => exact fun a w hh => hh
  | cons o r ih =>
    intro a w hh
    simp only [opsL] at hh ⊢
    split
    · rename_i hw
      rw [if_pos hw] at hh
      exact opw_mono ih hq hh
    · rename_i hw
      rw [if_neg hw] at hh
      exact ih _ _ hh
/-- A region in the text's order. -/
theorem JC.region {id : Nat} (hh : JO P B w0 ds D n ops N 0 ops.size E h) (hd : noDef ops = true := by kernel_rfl) : JC P r B w0 ds N D n (.region id ops false) E h := by
  intro a w ha hw
  have h1 := hh a w ha hw
  rw [show (ops.toList.take ops.size).drop 0 = ops.toList from by rw [List.drop_zero, List.take_of_length_le (by simp)]] at h1
  refine wpIn_region ?_
  rw [List.range_eq_range']
  refine opsL_in hd _ 0 a w (by simp) ?_
  rw [List.drop_zero]
  refine opsL_monoQ (Q := QD B (fun _ _ => False) D) ?_ _ _ _ h1
  intro e a w he q
  cases e with
  | normal => exact absurd rfl he
  | _ => exact q
theorem JO.end_ (hh : JK w0 ds n N E h) : JO P B w0 ds D n ops N i i E h := by
  intro a w ha hw
  rw [show (ops.toList.take i).drop i = [] from List.drop_eq_nil_of_le (by simp; omega)]
  exact hh a w ha hw
theorem take_drop {o : Oper} (ho : ops[i]? = some o) (hij : Nat.blt i j = true) : (ops.toList.take j).drop i = o :: (ops.toList.take j).drop (i + 1) := by
  have hlt : i < j := by unfold Nat.blt at hij; exact Nat.le_of_ble_eq_true hij
  have h1 : (ops.toList.take j)[i]? = some o := by rw [List.getElem?_take, if_pos hlt]; simpa using ho
  obtain ⟨h2, h3⟩ := List.getElem?_eq_some_iff.1 h1
  rw [List.drop_eq_getElem_cons h2, h3]
theorem JO.step {o : Oper} (ho : ops[i]? = some o) (hij : Nat.blt i j = true) (hw : wantedE ops E o = some true) (hd : dstOk n o.dst = true)
    (hh : OpOk P n w0 ds (QD B (fun _ _ => False) D) o E h fun v h' => JO P B w0 ds D n ops N (i + 1) j (eput o.dst v E) h') : JO P B w0 ds D n ops N i j E h := by
  intro a w ha hwd
  rw [take_drop ho hij]
  simp only [opsL]
  rw [if_pos (wanted_of ha hw)]
  refine opw_mono ?_ (fun _ _ _ _ q => q) (hh a w ha hwd)
  rintro a' w' ⟨v, h', rfl, hw', hk⟩
  exact hk _ _ (ha.put v hd) hw'
theorem JO.skip {o : Oper} (ho : ops[i]? = some o) (hij : Nat.blt i j = true) (hw : wantedE ops E o = some false) (hd : dstOk n o.dst = true)
    (hh : JO P B w0 ds D n ops N (i + 1) j (eput o.dst undef E) h) : JO P B w0 ds D n ops N i j E h := by
  intro a w ha hwd
  rw [take_drop ho hij]
  simp only [opsL]
  rw [if_neg (by rw [wanted_of ha hw]; simp)]
  exact hh _ _ (ha.put undef hd) hwd
theorem JO.yld {o : Oper} {v : Value} (ho : ops[i]? = some o) (hij : Nat.blt i j = true) (hw : wantedE ops E o = some true) (hd : dstOk n o.dst = true)
    (hy : Yld P o E (· = h) v) (hh : JO P B w0 ds D n ops N (i + 1) j (eput o.dst v E) h) : JO P B w0 ds D n ops N i j E h :=
  JO.step ho hij hw hd (hy.ok hh)
/-- The Bool in a slot, case by case. -/
theorem Ag.case {a : Act} {t : Nat} {b c : Bool} (ha : Ag ds n E a) (ht : look E t = some (.bool b)) (e : b = c) : Ag ds n ((t, .bool c) :: E) a := by
  subst e
  refine ⟨ha.size, ha.defers, fun u v hu => ?_⟩
  by_cases e : t = u
  · subst e
    rw [look_cons_eq] at hu
    rw [← ht] at hu
    exact ha.vals _ _ hu
  · rw [look_cons_ne e] at hu
    exact ha.vals _ _ hu
theorem JO.cases {t : Nat} (b : Bool) (ht : look E t = some (.bool b)) (h1 : b = true → JO P B w0 ds D n ops N i j ((t, .bool true) :: E) h)
    (h2 : b = false → JO P B w0 ds D n ops N i j ((t, .bool false) :: E) h) : JO P B w0 ds D n ops N i j E h := by
  intro a w ha hw
  cases hb : b with
  | true => exact h1 hb a w (ha.case ht hb) hw
  | false => exact h2 hb a w (ha.case ht hb) hw
theorem JO.sub {E' : Env} (hs : Sub E E') (hh : JO P B w0 ds D n ops N i j E' h) : JO P B w0 ds D n ops N i j E h := fun a w ha hw => hh a w (ha.sub hs) hw
theorem JC.sub {E' : Env} {c : Code} (hs : Sub E E') (hh : JC P r B w0 ds N D n c E' h) : JC P r B w0 ds N D n c E h := fun a w ha hw => hh a w (ha.sub hs) hw
theorem JK.sub {E' : Env} (hs : Sub E E') (hh : JK w0 ds n N E' h) : JK w0 ds n N E h := fun a w ha hw => hh a w (ha.sub hs) hw
/-- A meeting point at operation m. -/
theorem JO.join {S : Type} (m : Nat) (Ej : S → Env) (k : S → Hp → Prop) (him : Nat.ble i m = true) (hmj : Nat.ble m j = true)
    (hx : JO P B w0 ds D n ops (InvP w0 ds n Ej k) i m E h) (hy : ∀ s h', k s h' → JO P B w0 ds D n ops N m j (Ej s) h') : JO P B w0 ds D n ops N i j E h := by
  intro a w ha hw
  have h1 : i ≤ m := Nat.le_of_ble_eq_true him
  have h2 : m ≤ j := Nat.le_of_ble_eq_true hmj
  have e : (ops.toList.take j).drop i = (ops.toList.take m).drop i ++ (ops.toList.take j).drop m := by
    rw [← List.take_append_drop (m - i) ((ops.toList.take j).drop i), List.drop_drop, List.take_drop, List.take_take,
      show i + (m - i) = m from by omega, Nat.min_eq_left h2]
  rw [e, opsL_append]
  refine opsL_mono _ _ _ (hx a w ha hw) ?_
  rintro a w ⟨s, hs, hwd, hk⟩
  exact hy s _ hk a w hs hwd
/-- Operations that run by themselves, one behind the other. -/
def runs (P : Program) (ops : Array Oper) (n : Nat) : List Oper → Env → World → Option (Env × World)
  | [], E, w => some (E, w)
  | o :: r, E, w => match wantedE ops E o, known E o, dstOk n o.dst, (execOp (ev E) o).run P w with
    | some true, true, true, .ok (.value v) w' => runs P ops n r (eput o.dst v E) w'
    | some false, _, true, _ => runs P ops n r (eput o.dst undef E) w
    | _, _, _, _ => none
theorem runs_cons {o : Oper} {r : List Oper} {w : World} {z : Env × World} (hh : runs P ops n (o :: r) E w = some z) :
    (∃ v w', wantedE ops E o = some true ∧ known E o = true ∧ dstOk n o.dst = true ∧ (execOp (ev E) o).run P w = .ok (.value v) w' ∧ runs P ops n r (eput o.dst v E) w' = some z) ∨
    (wantedE ops E o = some false ∧ dstOk n o.dst = true ∧ runs P ops n r (eput o.dst undef E) w = some z) := by
  simp only [runs] at hh
  split at hh
  · rename_i v w' h1 h2 h3 h4
    exact .inl ⟨v, w', h1, h2, h3, h4, hh⟩
  · rename_i h1 h2
    exact .inr ⟨h1, h2, hh⟩
  · cases hh
def dsts : List Oper → List Nat
  | [] => []
  | o :: r => match o.dst with
    | some d => d :: dsts r
    | none => dsts r
theorem runs_look {t : Nat} : ∀ (l : List Oper) (E E1 : Env) (w w1 : World), runs P ops n l E w = some (E1, w1) → t ∉ dsts l → look E1 t = look E t := by
  intro l
  induction l with
  | nil => intro E E1 w w1 hh _; injection hh with hh; injection hh with h1 h2; rw [h1]
  | cons o r ih =>
    intro E E1 w w1 hh ht
    obtain ⟨v, w', h5⟩ : ∃ v w', runs P ops n r (eput o.dst v E) w' = some (E1, w1) := by
      rcases runs_cons hh with ⟨v, w', _, _, _, _, h5⟩ | ⟨_, _, h5⟩
      · exact ⟨v, w', h5⟩
      · exact ⟨undef, w, h5⟩
    cases hd : o.dst with
    | none =>
      simp only [dsts, hd] at ht
      rw [hd] at h5
      exact ih _ _ _ _ h5 ht
    | some d =>
      simp only [dsts, hd, List.mem_cons, not_or] at ht
      rw [hd] at h5
      rw [ih _ _ _ _ h5 ht.2]
      exact look_cons_ne (fun e => ht.1 e.symm)
theorem runs_sound {Q : Exit → Act → World → Prop} : ∀ (l : List Oper) (E E1 : Env) (w w1 : World) (a : Act), runs P ops n l E w = some (E1, w1) → Ag ds n E a →
    (∀ a', Ag ds n E1 a' → N a' w1) → opsL P ops Q l N a w := by
  intro l
  induction l with
  | nil => intro E E1 w w1 a hh ha hk; injection hh with hh; injection hh with h1 h2; subst h1; subst h2; exact hk a ha
  | cons o r ih =>
    intro E E1 w w1 a hh ha hk
    simp only [opsL]
    rcases runs_cons hh with ⟨v, w', h1, h2, h3, h4, h5⟩ | ⟨h1, h3, h5⟩
    · rw [if_pos (wanted_of ha h1)]
      unfold opw
      rw [ha.exec h2, h4]
      exact ih _ _ _ _ _ h5 (ha.put v h3) hk
    · rw [if_neg (by rw [wanted_of ha h1]; simp)]
      exact ih _ _ _ _ _ h5 (ha.put undef h3) hk
def hasKey : Env → Nat → Bool
  | [], _ => false
  | p :: E, t => match Nat.beq p.1 t with
    | true => true
    | false => hasKey E t
def shadowOk (l : List Oper) (new E : Env) : Bool := (dsts l).all fun d => hasKey new d || !hasKey E d
theorem look_none : ∀ (E : Env) (t : Nat), hasKey E t = false → look E t = none := by
  intro E
  induction E with
  | nil => intro t _; rfl
  | cons p r ih =>
    intro t hh
    simp only [hasKey] at hh
    cases hb : Nat.beq p.1 t with
    | true => rw [hb] at hh; cases hh
    | false => rw [hb] at hh; simp only [look, hb]; exact ih t hh
theorem look_append : ∀ (E E' : Env) (t : Nat), look (E ++ E') t = if hasKey E t then look E t else look E' t := by
  intro E
  induction E with
  | nil => intro E' t; rfl
  | cons p r ih =>
    intro E' t
    cases hb : Nat.beq p.1 t with
    | true => simp only [List.cons_append, look, hasKey, hb, if_true]
    | false => simp only [List.cons_append, look, hasKey, hb]; exact ih E' t
theorem look_of_map : ∀ (new E1 : Env), new.map (fun p => look E1 p.1) = new.map (fun p => some p.2) → ∀ t v, hasKey new t = true → look new t = some v → look E1 t = some v := by
  intro new E1 hm t v _ hv
  exact Sub.of hm t v hv
theorem JO.pures (m : Nat) (new : Env) (him : Nat.ble i m = true) (hmj : Nat.ble m j = true) (hs : shadowOk ((ops.toList.take m).drop i) new E = true)
    (hr : ∀ w, (runs P ops n ((ops.toList.take m).drop i) E w).map (fun r => (new.map (fun p => look r.1 p.1), r.2)) = some (new.map (fun p => some p.2), w))
    (hh : JO P B w0 ds D n ops N m j (new ++ E) h) : JO P B w0 ds D n ops N i j E h := by
  intro a w ha hw
  have h1 : i ≤ m := Nat.le_of_ble_eq_true him
  have h2 : m ≤ j := Nat.le_of_ble_eq_true hmj
  have e : (ops.toList.take j).drop i = (ops.toList.take m).drop i ++ (ops.toList.take j).drop m := by
    rw [← List.take_append_drop (m - i) ((ops.toList.take j).drop i), List.drop_drop, List.take_drop, List.take_take,
      show i + (m - i) = m from by omega, Nat.min_eq_left h2]
  rw [e, opsL_append]
  have hr1 := hr w
  cases hrun : runs P ops n ((ops.toList.take m).drop i) E w with
  | none => rw [hrun] at hr1; cases hr1
  | some z =>
    obtain ⟨E1, w1⟩ := z
    rw [hrun] at hr1
    simp only [Option.map_some, Option.some.injEq, Prod.mk.injEq] at hr1
    obtain ⟨h3, rfl⟩ := hr1
    refine runs_sound _ _ _ _ _ _ hrun ha fun a' ha' => ?_
    refine hh a' w1 (ha'.sub fun t v hv => ?_) hw
    rw [look_append] at hv
    split at hv
    · rename_i hk
      exact look_of_map new E1 h3 t v hk hv
    · rename_i hk
      have hk' : hasKey new t = false := by simpa using hk
      rw [runs_look _ _ _ _ _ hrun, hv]
      intro hmem
      have := List.all_eq_true.1 hs t hmem
      rw [hk'] at this
      simp only [Bool.false_or, Bool.not_eq_true'] at this
      rw [look_none E t this] at hv
      cases hv
/-! A meeting point with one environment, on one heap. -/
def InvQ (w0 : World) (ds : List Deferred) (n : Nat) (E' : Env) (h : Hp) : Dest := fun a w => Ag ds n E' a ∧ Wd w0 h w
theorem JK.invQ {E' : Env} (hs : Sub E E') : JK w0 ds n (InvQ w0 ds n E' h) E h := fun _ _ ha hw => ⟨ha.sub hs, hw⟩
theorem JO.joinQ (m : Nat) (E' : Env) (him : Nat.ble i m = true) (hmj : Nat.ble m j = true)
    (hx : JO P B w0 ds D n ops (InvQ w0 ds n E' h) i m E h) (hy : JO P B w0 ds D n ops N m j E' h) : JO P B w0 ds D n ops N i j E h := by
  intro a w ha hw
  have h1 : i ≤ m := Nat.le_of_ble_eq_true him
  have h2 : m ≤ j := Nat.le_of_ble_eq_true hmj
  have e : (ops.toList.take j).drop i = (ops.toList.take m).drop i ++ (ops.toList.take j).drop m := by
    rw [← List.take_append_drop (m - i) ((ops.toList.take j).drop i), List.drop_drop, List.take_drop, List.take_take,
      show i + (m - i) = m from by omega, Nat.min_eq_left h2]
  rw [e, opsL_append]
  refine opsL_mono _ _ _ (hx a w ha hw) ?_
  rintro a w ⟨hs, hwd⟩
  exact hy a w hs hwd
theorem JC.viaQ {c : Code} (E' : Env) (hx : JC P r B w0 ds (InvQ w0 ds n E' h) D n c E h) (hy : JK w0 ds n N E' h) : JC P r B w0 ds N D n c E h :=
  fun a w ha hw => wpIn_mono (hx a w ha hw) fun e a w q => by
    cases e with
    | normal => exact hy a w q.1 q.2
    | _ => exact q
theorem JC.via {S : Type} {c : Code} (Ej : S → Env) (k : S → Hp → Prop) (hx : JC P r B w0 ds (InvP w0 ds n Ej k) D n c E h) (hy : ∀ s h', k s h' → JK w0 ds n N (Ej s) h') : JC P r B w0 ds N D n c E h :=
  fun a w ha hw => wpIn_mono (hx a w ha hw) fun e a w q => by
    cases e with
    | normal => exact JK.from_inv hy a w q
    | _ => exact q
end
end Go.Proofs.YtefbonjcpdjhcaaGreatDoor.X
