/- A part of the proof: The card of ScriptReads: for every text that the form allows, the law returns true and leaves its argument as it was; the listed package-level variables of Go's library hold what their initialisers lay. -/
import Derived.Test.YtefbonjcpdjhcaaGreatDoorAbXS
import Derived.RangeFuncRecord
import Derived.Laws.IdiomStrings
/- Stage 1: conversions between strings and slices of bytes; maps of strings; calls of function values; the range over a function. -/
set_option linter.unusedVariables false
namespace Go.Proofs.YtefbonjcpdjhcaaGreatDoor.X
open Go Go.RowKit

/-! ### []byte(s), string(b) -/
def bytesV (s : Str) : List Value := s.map fun b => .int .u8 b.toNat
/-- []byte(s): the block that comes: the bytes, then zeros; the cell behind the last is marked. -/
def bytesObj (ty : TypeId) (s : Str) (c : Nat) : Obj := .cells (bytesRow (ba s) c) ty ((bytesRow (ba s) c).size, (bytesRow (ba s) c).size + 1)
def BytesW (h : Hp) (ty : TypeId) (s : Str) (k : Sl → Hp → Prop) : Prop :=
  ∀ p c h1, p = h.size → s.length ≤ c → c ≤ maxLen → h1 = h.push (bytesObj ty s c) → k ⟨some ⟨p, 0, none⟩, s.length, c⟩ h1
/-- string(b). -/
def StrW (h : Hp) (b : Sl) (k : Str → Prop) : Prop := ∃ s : Str, s.length = b.len ∧ SlCells h b.a (bytesV s) ∧ k s

section
variable {P : Program} {r : Option Nat} {B : Bod} {w0 : World} {ds : List Deferred} {X : Chain → Hp → Prop} {N : Dest} {D : List (Nat × Dest)} {n : Nat} {E : Env} {h : Hp} {o : Oper} {k : Value → Hp → Prop} {Q : Exit → Act → World → Prop}
theorem OpOk.cb {x : Operand} {src dst e : TypeId} {s : Str} {k : Sl → Hp → Prop} {kk : Value → Hp → Prop} (hh : BytesW h e s k) (hf : ∀ s h1, k s h1 → kk (sl s) h1) (hl : s.length ≤ maxLen) (ho : o.op = .convert src dst x := by rfl) (hk : known E o = true := by kernel_rfl)
    (hs : P.underlying src = some .string := by kernel_rfl) (hd : P.underlying dst = some (.slice e) := by kernel_rfl) (he : P.underlying e = some (.int .u8) := by kernel_rfl) (hx : ev E x = .string (ba s) := by kernel_rfl) : OpOk P n w0 ds Q o E h kk := by
  intro a w ha hw
  unfold opw
  rw [ha.exec hk]
  have hr := run_bytes_of_string (P := P) w src dst e (ba s) hs hd he
  have : (execOp (ev E) o).run P w = .ok (.value (.slice (some ⟨w.heap.size, 0, none⟩) (ba s).size (grownCap w (ba s).size 0 e)))
      (w.drew.alloc (.cells (bytesRow (ba s) (grownCap w (ba s).size 0 e)) e ((bytesRow (ba s) (grownCap w (ba s).size 0 e)).size, (bytesRow (ba s) (grownCap w (ba s).size 0 e)).size + 1))) := by
    simp only [execOp, ho, hx]
    simp [hr]
  rw [this]
  have hg := hh w.heap.size (grownCap w s.length 0 e) (h.push (bytesObj e s (grownCap w s.length 0 e))) (by rw [hw.heap]) (grownCap_ge w _ _ _) (grownCap_le_maxLen w _ _ _ hl) rfl
  refine ⟨_, _, rfl, ⟨?_, hw.os, hw.tape, hw.output⟩, hf _ _ hg⟩
  show w.heap.push _ = _
  rw [hw.heap]
  rfl
theorem Yld.sb {x : Operand} {src dst : TypeId} {b : Sl} {s : Str} (e : TypeId) (hl : s.length = b.len) (hc : SlCells h b.a (bytesV s)) (ho : o.op = .convert src dst x := by rfl) (hk : known E o = true := by kernel_rfl)
    (hs : P.underlying src = some (.slice e) := by kernel_rfl) (hd : P.underlying dst = some .string := by kernel_rfl) (he : P.underlying e = some (.int .u8) := by kernel_rfl) (hx : ev E x = sl b := by kernel_rfl) : Yld P o E (· = h) (.string (ba s)) := by
  intro ds n a w ha hw
  rw [ha.exec hk]
  have : (convert src dst (sl b)).run P w = .ok (.string (ba s)) w := by
    cases hba : b.a with
    | none =>
      have hs0 : s = [] := by
        cases s with
        | nil => rfl
        | cons c s =>
          obtain ⟨b', hb', _⟩ := hc (by simp [bytesV])
          rw [hba] at hb'; cases hb'
      subst hs0
      have h0 : b.len = 0 := by simpa using hl.symm
      rw [sl, hba, run_convert_bytes_string w src dst e _ _ _ hs he hd, h0]
      rfl
    | some a =>
      have hc' : ∀ j (hj : j < s.length), w.cell? (a.add j) = some (.int .u8 (s[j].toNat : Int)) := fun j hj => by
        obtain ⟨b', hb', hcc⟩ := hc (by intro e; simp [bytesV] at e; subst e; simp at hj)
        rw [hba] at hb'
        injection hb' with hb'
        subst hb'
        rw [cell_heap, show w.heap = h from hw]
        exact hcc j _ (by simp [bytesV, hj])
      have := run_convert_bytes_back (P := P) w src dst e a b.cap s hs he hd hc'
      rw [sl, hba, ← hl, this]
  simp only [execOp, ho, hx]
  simp [this]

/-! ### Calls of function values -/
def GoOn (P : Program) (R : Ending → World → Prop) : Result Next → Prop
  | .ok (.enter f args) w' => CallsIn Fence.wide 0 P f args w' R
  | .ok (.round l f tmps assign body) w' => RoundIn Fence.wide 0 P l f tmps assign body w' R
  | _ => False
def CallV (P : Program) (v : Value) (args : List Value) (h : Hp) (K : Value → Hp → Prop) (X : Chain → Hp → Prop) : Prop :=
  ∀ w : World, w.heap = h → GoOn P (RF w K X) ((do let d ← Deferred.ofValue v args.toArray; invoke d.target d.args : Sem Next).run P w)
theorem GoOn.mono {R R' : Ending → World → Prop} {x : Result Next} (hh : GoOn P R x) (hr : ∀ e w, R e w → R' e w) : GoOn P R' x := by
  unfold GoOn at *
  split at hh
  · exact CallsIn.mono hh hr
  · exact RoundIn.mono hh hr
  · exact hh.elim
theorem RF.mono {w0 : World} {K K' : Value → Hp → Prop} {X X' : Chain → Hp → Prop} (hk : ∀ v h', K v h' → K' v h') (hx : ∀ c h', X c h' → X' c h') : ∀ e w, RF w0 K X e w → RF w0 K' X' e w := by
  intro e w he
  cases e with
  | returned v => exact ⟨he.1, hk _ _ he.2⟩
  | panicked c => exact ⟨he.1, hx _ _ he.2⟩
  | outgrown => exact he
theorem CallV.mono {v : Value} {args : List Value} {K K' : Value → Hp → Prop} {X X' : Chain → Hp → Prop} (hc : CallV P v args h K X) (hk : ∀ v h', K v h' → K' v h') (hx : ∀ c h', X c h' → X' c h') : CallV P v args h K' X' :=
  fun w hw => (hc w hw).mono (RF.mono hk hx)
theorem CallV.func {f : FuncId} {first cap : Array Value} {args : List Value} {K : Value → Hp → Prop} {X : Chain → Hp → Prop} (hc : CallH P f (first ++ args.toArray ++ cap) h K X)
    (hr : ∀ (xs : Array Value) (w : World), (callFunc f xs).run P w = .ok (.enter f xs) w := by intro _ _; rfl) : CallV P (.func (.func f) first cap) args h K X := by
  intro w hw
  simp only [Deferred.ofValue, pure_bind, invoke, hr, GoOn]
  refine callsIn_wide.2 ((hc w hw).mono fun e w' he => ?_)
  cases e <;> exact he
/-- A call that enters a function. -/
def CallE (P : Program) (v : Value) (args : List Value) (h : Hp) (K : Value → Hp → Prop) (X : Chain → Hp → Prop) : Prop :=
  ∀ w : World, w.heap = h → ∃ d f xs, (Deferred.ofValue v args.toArray).run P w = .ok d w ∧ (invoke d.target d.args).run P w = .ok (.enter f xs) w ∧ CallsIn Fence.wide 0 P f xs w (RF w K X)
theorem CallE.mono {v : Value} {args : List Value} {K K' : Value → Hp → Prop} {X X' : Chain → Hp → Prop} (hc : CallE P v args h K X) (hk : ∀ v h', K v h' → K' v h') (hx : ∀ c h', X c h' → X' c h') : CallE P v args h K' X' :=
  fun w hw => let ⟨d, f, xs, h1, h2, h3⟩ := hc w hw; ⟨d, f, xs, h1, h2, CallsIn.mono h3 (RF.mono hk hx)⟩
theorem CallE.func {f : FuncId} {first cap : Array Value} {args : List Value} {K : Value → Hp → Prop} {X : Chain → Hp → Prop} (hc : CallH P f (first ++ args.toArray ++ cap) h K X)
    (hr : ∀ (xs : Array Value) (w : World), (callFunc f xs).run P w = .ok (.enter f xs) w := by intro _ _; rfl) : CallE P (.func (.func f) first cap) args h K X := by
  intro w hw
  refine ⟨_, f, _, rfl, hr _ w, callsIn_wide.2 ((hc w hw).mono fun e w' he => ?_)⟩
  cases e <;> exact he
theorem OpOk.cv {t : Operand} {xs : Array Operand} {ts : Array TypeId} (v : Value) (args : List Value) (hc : CallV P v args h k X) (ho : o.op = .call { callee := .value t, args := xs, argTypes := ts } := by rfl) (hk : known E o = true := by kernel_rfl)
    (hv : ev E t = v := by kernel_rfl) (ha : (xs.map (ev E)) = args.toArray := by kernel_rfl) (hp : PanOk B w0 ds n E X := by first | exact panOk_s | exact panOk_no) : OpOk P n w0 ds (QD B N D) o E h k := by
  intro a w hag hw
  unfold opw
  rw [hag.exec hk]
  have hcw := hc w hw.heap
  have he : (execOp (ev E) o).run P w = ((do let d ← Deferred.ofValue v args.toArray; invoke d.target d.args : Sem Next).run P w) := by
    simp only [execOp, ho, resolve, hv, ha]
  rw [he]
  generalize (Sem.run P (do let d ← Deferred.ofValue v args.toArray; invoke d.target d.args : Sem Next) w) = x at hcw ⊢
  unfold GoOn at hcw
  split at hcw
  · refine ⟨(fun hx => nomatch hx), CallsIn.mono hcw fun e w' he => ?_⟩
    cases e with
    | returned v => exact ⟨v, _, rfl, hw.to he.1, he.2⟩
    | panicked c => exact hp c a w' _ hag (hw.to he.1) he.2
    | outgrown => exact he.elim
  · refine ⟨(fun hx => nomatch hx), RoundIn.mono hcw fun e w' he => ?_⟩
    cases e with
    | returned v => exact ⟨v, _, rfl, hw.to he.1, he.2⟩
    | panicked c => exact hp c a w' _ hag (hw.to he.1) he.2
    | outgrown => exact he.elim
  · exact hcw.elim

/-! ### The range over a function -/
def mark (D : Nat) : Deferred := { target := .collected D, args := #[] }
def noX : Chain → Hp → Prop := fun _ _ => False
abbrev Rec := LoopState → Option Code → Loop
def boolP (K : Bool → Hp → Prop) : Value → Hp → Prop := fun v h' => ∃ b, v = .bool b ∧ K b h'
/-- A function that holds a range over a function: no panic may come up to it. -/
def mbod (P : Program) (fn : Func) (w0 : World) (K : Value → Hp → Prop) : Bod where
  ret := fun a w => LeavesInM (wd none) 0 P fn a.tmps (RF w0 K noX) a.defers .returning w
  pan := fun _ _ _ => False
abbrev lset (h : Hp) (l : Nat) (x : Loop) : Hp := h.setIfInBounds l (.loop x)
/-- for x := range v { .. }. BN: a round: its arguments, the heap, what follows the assignments, the body's end, its jumps. KN: what follows the loop; KJ: a jump out of it. -/
def RangeW {T : Type} (P : Program) (v : Value) (h : Hp) (enc : T → List Value) (BN : T → Hp → (Hp → (Hp → Prop) → Prop) → (Hp → Prop) → (Code → Hp → Prop) → Prop) (KN : Nat → Hp → Prop) (KJ : Nat → Code → Hp → Prop) : Prop :=
  ∀ (D l : Nat) (rc : Rec) (y : Value) (h1 : Hp), D = h.size → l = h.size + 1 → h1 = (h.push (.deferred (some []))).push (.loop (rc .ready none)) → y = .func (.yield l) #[] #[] →
    (∀ (x : T) (g : Hp) (K : Bool → Hp → Prop), g[l]? = some (.loop (rc .ready none)) →
      BN x g (fun g1 k => g1[l]? = some (.loop (rc .ready none)) ∧ ∀ g2, g2 = lset g1 l (rc .busy none) → k g2)
        (fun g1 => g1[l]? = some (.loop (rc .busy none)) ∧ ∀ g2, g2 = lset g1 l (rc .ready none) → K true g2)
        (fun c g1 => g1[l]? = some (.loop (rc .busy none)) ∧ ∀ g2, g2 = lset g1 l (rc .done (some c)) → K false g2) →
      CallV P y (enc x) g (boolP K) noX) →
    CallE P v [y] h1 (fun _ h2 => (h2[l]? = some (.loop (rc .ready none)) ∧ ∀ h3, h3 = lset h2 l (rc .exhausted none) → KN D h3) ∨
      (∃ c, h2[l]? = some (.loop (rc .done (some c))) ∧ ∀ h3, h3 = lset h2 l (rc .exhausted (some c)) → KJ D c h3)) noX
theorem putObj_wd {w0 w : World} {h : Hp} {l : Nat} {x : Loop} (hw : Wd w0 h w) : Wd w0 (lset h l x) (w.putObj l (.loop x)) :=
  ⟨by unfold World.putObj; show w.heap.setIfInBounds _ _ = _; rw [hw.heap], hw.os, hw.tape, hw.output⟩
/-- A round's ends. -/
def ndest (P : Program) (l : Nat) (R : Ending → World → Prop) : Dest := fun a w => ∃ v w', (Instr.endRound l none).run P w = .ok v w' ∧ R (.returned v) w'
def jdest (P : Program) (l : Nat) (R : Ending → World → Prop) (c : Code) : Dest := fun a w => ∃ v w', (Instr.endRound l (some c)).run P w = .ok v w' ∧ R (.returned v) w'
def rbod (P : Program) (l : Nat) (R : Ending → World → Prop) : Bod where
  ret := jdest P l R .ret
  pan := fun _ _ _ => False
def abod : Bod where
  ret := fun _ _ => False
  pan := fun _ _ _ => False
def rexits (P : Program) (l : Nat) (R : Ending → World → Prop) (ids : List Nat) : List (Nat × Dest) := ids.map fun id => (id, jdest P l R (.exit id))
theorem dlook_rexits {l : Nat} {R : Ending → World → Prop} {id : Nat} {M : Dest} : ∀ (ids : List Nat), dlook (rexits P l R ids) id = some M → M = jdest P l R (.exit id)
  | [], hh => by cases hh
  | i :: ids, hh => by
    simp only [rexits, List.map_cons, dlook] at hh
    cases hb : Nat.beq i id with
    | true =>
      rw [hb] at hh
      rw [← Nat.eq_of_beq_eq_true hb]
      injection hh with hh
      exact hh.symm
    | false => rw [hb] at hh; exact dlook_rexits ids hh
def envp (ps : List Tmp) (vs : List Value) (E : Env) : Env :=
  match ps, vs with
  | p :: ps, v :: vs => envp ps vs ((p, v) :: E)
  | _, _ => E
theorem Ag.params {ds : List Deferred} : ∀ (ps : List Tmp) (vs : List Value) (E : Env) (tm : Array Value), (ps.all fun p => Nat.blt p n) = true → (∀ t v, look E t = some v → tm.getD t undef = v) → tm.size = n →
    Ag ds n (envp ps vs E) { tmps := (ps.zip vs).foldl (fun t (p, v) => t.setIfInBounds p v) tm, defers := ds }
  | [], _, E, tm, _, hv, hs => by simp only [envp, List.zip_nil_left, List.foldl_nil]; exact ⟨hs, rfl, hv⟩
  | p :: ps, [], E, tm, _, hv, hs => by simp only [envp, List.zip_nil_right, List.foldl_nil]; exact ⟨hs, rfl, hv⟩
  | p :: ps, v :: vs, E, tm, hp, hv, hs => by
    simp only [List.all_cons, Bool.and_eq_true] at hp
    simp only [envp, List.zip_cons_cons, List.foldl_cons]
    refine Ag.params ps vs _ _ hp.2 (fun t u hu => ?_) (by simp [hs])
    have hlt : p < n := by
      have := hp.1
      unfold Nat.blt at this
      exact Nat.le_of_ble_eq_true this
    by_cases e : p = t
    · subst e
      rw [look_cons_eq] at hu
      injection hu with hu
      subst hu
      simp [hs, hlt]
    · rw [look_cons_ne e] at hu
      rw [← hv t u hu]
      simp [Array.getElem?_setIfInBounds_ne e]
theorem JC.rangeF {T : Type} {g : Operand} {ps : Array Tmp} {assign body : Code} (v : Value) (ids : List Nat) (Er : Env) {enc : T → List Value} {BN : T → Hp → (Hp → (Hp → Prop) → Prop) → (Hp → Prop) → (Code → Hp → Prop) → Prop} {KN : Nat → Hp → Prop} {KJ : Nat → Code → Hp → Prop}
    (hH : RangeW P v h enc BN KN KJ)
    (hb : ∀ (x : T) (l : Nat) (w1 : World) (R : Ending → World → Prop) (Nb : Dest) (h : Hp) (beg : Hp → (Hp → Prop) → Prop) (next : Hp → Prop) (jump : Code → Hp → Prop), BN x h beg next jump →
      (∀ E' h' k, beg h' k → (∀ h1, k h1 → JC P (some l) (rbod P l R) w1 [] (ndest P l R) (rexits P l R ids) n body E' h1) → JK w1 [] n Nb E' h') →
      (∀ E' h', next h' → JK w1 [] n (ndest P l R) E' h') → (∀ c E' h', jump c h' → JK w1 [] n (jdest P l R c) E' h') →
      JC P (some l) abod w1 [] Nb [] n assign (envp ps.toList (enc x) Er) h)
    (hn : ∀ D' h', KN D' h' → JK w0 (mark D' :: ds) n N E h') (hj : ∀ D' c h', KJ D' c h' → JC P none B w0 (mark D' :: ds) N D n c E h')
    (hk : knownO E g = true := by kernel_rfl) (hv : ev E g = v := by kernel_rfl) (hps : (ps.toList.all fun p => Nat.blt p n) = true := by kernel_rfl) (hE : Sub E Er := by exact Sub.kk) (hsz : ∀ x, (enc x).length = ps.size := by intro _; rfl) :
    JC P none B w0 ds N D n (.rangeFunc g ps assign body) E h := by
  intro a w ha hw
  refine wpIn_rangeFunc ?_
  intro fn hfn
  show ∃ l mark w1 d w1' f args w2, (Instr.enterLoop fn a.tmps ps assign body none).run P w = _ ∧ _
  obtain ⟨rec, hrec⟩ : ∃ rec : Rec, rec = fun st pe => { state := st, pending := pe, fn, tmps := a.tmps, params := ps, assign, body, defers := w.heap.size } := ⟨_, rfl⟩
  obtain ⟨W1, hW1⟩ : ∃ W1, (w.alloc (.deferred (some []))).alloc (.loop (rec .ready none)) = W1 := ⟨_, rfl⟩
  have hwW : Wd w W1.heap W1 := ⟨rfl, by rw [← hW1]; rfl, by rw [← hW1]; rfl, by rw [← hW1]; rfl⟩
  have hW : Wd w0 W1.heap W1 := by rw [← hW1]; exact ⟨rfl, hw.os, hw.tape, hw.output⟩
  have hcall := hH w.heap.size (w.heap.size + 1) rec (.func (.yield (w.heap.size + 1)) #[] #[]) W1.heap (by rw [hw.heap]) (by rw [hw.heap]) (by rw [← hW1, ← hw.heap]; rfl) rfl (by
    intro x g0 K hl hBN w1 hw1
    have hl' : w1.heap[w.heap.size + 1]? = some (.loop (rec .ready none)) := by rw [hw1]; exact hl
    have hy := run_yield (P := P) (args := (enc x).toArray) hl' (by rw [hrec]; simpa using hsz x)
    simp only [Deferred.ofValue, pure_bind, invoke, Array.empty_append]
    rw [hy]
    show RoundIn _ _ _ _ _ _ _ _ _ _
    refine roundIn_of_wpIn trivial ?_
    have key := hb x (w.heap.size + 1) w1 (RF w1 (boolP K) noX) (fun a1 w1' => ∃ w2, (Instr.beginRound (w.heap.size + 1)).run P w1' = .ok () w2 ∧ body.wpIn (wd (some (w.heap.size + 1))) 0 P (roundPost P (w.heap.size + 1) (RF w1 (boolP K) noX)) a1 w2)
      g0 _ _ _ hBN ?_ ?_ ?_
    · have hag : Ag [] n (envp ps.toList (enc x) Er) { tmps := ((rec .ready none).params.zip (enc x).toArray).foldl (fun tmps (t, a) => tmps.setIfInBounds t a) (rec .ready none).tmps, defers := [] } := by
        have := Ag.params (n := n) (ds := []) ps.toList (enc x) Er a.tmps hps (fun t v hv => (ha.sub hE).vals t v hv) ha.size
        rw [hrec]
        rw [← Array.foldl_toList, Array.toList_zip]
        exact this
      have hk := key _ w1 hag ⟨hw1, rfl, rfl, rfl⟩
      rw [hrec] at hk ⊢
      refine wpIn_mono hk fun e a w q => ?_
      cases e with
      | normal => exact q
      | _ => exact q.elim
    · rintro E' h' k ⟨hl1, hk1⟩ hbody a1 w1' ha1 hw1'
      have hl2 : w1'.heap[w.heap.size + 1]? = some (.loop (rec .ready none)) := by rw [hw1'.heap]; exact hl1
      refine ⟨_, run_beginRound (P := P) hl2 (by rw [hrec]), ?_⟩
      have := hbody _ (hk1 _ rfl) a1 (w1'.putObj (w.heap.size + 1) (.loop (rec .busy none))) ha1 (putObj_wd hw1')
      rw [hrec] at this ⊢
      refine wpIn_mono this fun e a w q => ?_
      cases e with
      | normal => exact q
      | ret => exact q
      | panic c => exact q
      | exit id =>
        simp only [QD] at q
        split at q
        · rename_i M hM
          rw [dlook_rexits _ hM] at q
          exact q
        · exact q.elim
      | _ => exact q.elim
    · rintro E' h' ⟨hl1, hk1⟩ a1 w1' ha1 hw1'
      have hl2 : w1'.heap[w.heap.size + 1]? = some (.loop (rec .busy none)) := by rw [hw1'.heap]; exact hl1
      refine ⟨_, _, run_endRound (P := P) none hl2, ?_⟩
      have hwd := putObj_wd (l := w.heap.size + 1) (x := rec .ready none) hw1'
      rw [hrec] at hwd hk1 ⊢
      refine ⟨⟨rfl, hwd.os, hwd.tape, hwd.output⟩, true, rfl, ?_⟩
      exact hk1 _ hwd.heap
    · rintro c E' h' ⟨hl1, hk1⟩ a1 w1' ha1 hw1'
      have hl2 : w1'.heap[w.heap.size + 1]? = some (.loop (rec .busy none)) := by rw [hw1'.heap]; exact hl1
      refine ⟨_, _, run_endRound (P := P) (some c) hl2, ?_⟩
      have hwd := putObj_wd (l := w.heap.size + 1) (x := rec .done (some c)) hw1'
      rw [hrec] at hwd hk1 ⊢
      refine ⟨⟨rfl, hwd.os, hwd.tape, hwd.output⟩, false, rfl, ?_⟩
      exact hk1 _ hwd.heap) W1 rfl
  obtain ⟨d, f, xs, hd, hi, hc⟩ := hcall
  have hgv : a.eval g = v := (ha.evl hk).trans hv
  refine ⟨w.heap.size + 1, [mark w.heap.size], W1, d, W1, f, xs, W1, ?_, ?_, fun _ _ => trivial, hi, (fun hx => nomatch hx), ?_⟩
  · rw [← hW1, hrec]; exact run_enterLoop_outer _ _ _ _ _
  · rw [← hd, ← hgv]; simp [resolve, Act.eval]
  · refine callsIn_wd.2 (callsIn_wide.1 (CallsIn.mono hc fun e w3 he => ?_))
    cases e with
    | returned u =>
      obtain ⟨hw3, he⟩ := he
      have hwd3 : Wd w0 w3.heap w3 := hW.to hw3
      rcases he with ⟨hl, hk3⟩ | ⟨c, hl, hk3⟩
      · have hl2 := run_endLoop (P := P) hl (by rw [hrec]; simp)
        refine ⟨_, _, hl2, ?_⟩
        have hwd := putObj_wd (l := w.heap.size + 1) (x := rec .exhausted none) hwd3
        rw [hrec] at hwd hk3 ⊢
        exact hn _ _ (hk3 _ rfl) { a with defers := mark w.heap.size :: a.defers } _ ⟨ha.size, by rw [← ha.defers], ha.vals⟩ hwd
      · have hl2 := run_endLoop (P := P) hl (by rw [hrec]; simp)
        refine ⟨_, _, hl2, ?_⟩
        have hwd := putObj_wd (l := w.heap.size + 1) (x := rec .exhausted (some c)) hwd3
        rw [hrec] at hwd hk3 ⊢
        exact hj _ _ _ (hk3 _ rfl) { a with defers := mark w.heap.size :: a.defers } _ ⟨ha.size, by rw [← ha.defers], ha.vals⟩ hwd
    | panicked c => exact he.2.elim
    | outgrown => exact he.elim
end
end Go.Proofs.YtefbonjcpdjhcaaGreatDoor.X
