/- A part of the proof: The card of ScriptReads: for every text that the form allows, the law returns true and leaves its argument as it was; the listed package-level variables of Go's library hold what their initialisers lay. -/
import Derived.Test.YtefbonjcpdjhcaaGreatDoorAbXK
import Derived.RecoverIn
/- Stage 1: deferred closures that recover; type assertions. -/
set_option linter.unusedVariables false
namespace Go.Proofs.YtefbonjcpdjhcaaGreatDoor.X
open Go Go.RowKit

/-! ### v.(T), T no interface -/
def TaW {T : Type} (v : Ifc) (t : TypeId) (enc : T → Value) (zero : T) (k : T → Bool → Prop) : Prop :=
  ∃ x ok, (ok = true → v = some (t, enc x)) ∧ (ok = false → (∀ p, v = some p → p.1 ≠ t) ∧ x = zero) ∧ k x ok
section
variable {P : Program} {r : Option Nat} {B : Bod} {w0 : World} {ds : List Deferred} {X : Chain → Hp → Prop} {N : Dest} {D : List (Nat × Dest)} {n : Nat} {E : Env} {h : Hp} {S : Hp → Prop} {o : Oper} {k : Value → Hp → Prop} {Q : Exit → Act → World → Prop} {fn : Func} {K : Value → Hp → Prop}
def noIface (P : Program) (t : TypeId) : Option Bool :=
  match P.underlying t with
  | some (.interface _) => some false
  | some _ => some true
  | none => none
theorem Yld.ta {x : Operand} {xt t : TypeId} (v : Ifc) {ok : Bool} {u z : Value} (h1 : ok = true → v = some (t, u)) (h0 : ok = false → (∀ p, v = some p → p.1 ≠ t) ∧ u = z) (ho : o.op = .typeAssert x xt t true := by rfl) (hk : known E o = true := by kernel_rfl)
    (hx : ev E x = ifc v := by kernel_rfl) (ht : noIface P t = some true := by kernel_rfl) (hz : ∀ w, (zeroValue t).run P w = .ok z w := by intro _; kernel_rfl) : Yld P o E S (.tuple #[u, .bool ok]) := by
  refine .runs_ hk fun w => ?_
  simp only [execOp, ho, hx]
  refine run_v ?_
  unfold Instr.typeAssert
  unfold noIface at ht
  cases hu : P.underlying t with
  | none => rw [hu] at ht; cases ht
  | some td =>
    rw [Sem.run_bind, run_underlying hu]
    simp only [Result.andThen]
    cases ok with
    | true =>
      rw [h1 rfl]
      cases td <;> first | (rw [hu] at ht; cases ht; done) | (simp [ifc])
    | false =>
      obtain ⟨h2, rfl⟩ := h0 rfl
      cases v with
      | none => cases td <;> first | (rw [hu] at ht; cases ht; done) | (simp [ifc, hz])
      | some p =>
        have := h2 p rfl
        cases td <;> first | (rw [hu] at ht; cases ht; done) | (simp [ifc, this, hz])

/-! ### A closure that recovers -/
def dbod (w0 : World) (R : Hp → Prop) : Bod where
  ret := fun a w => a.defers = [] ∧ Wd w0 w.heap w ∧ R w.heap
  pan := fun _ _ _ => False
theorem JK.retDb {R : Hp → Prop} (hk : R h) : JK w0 [] n (dbod w0 R).ret E h := fun a w ha hw => ⟨ha.defers, by rw [hw.heap]; exact hw, by rw [hw.heap]; exact hk⟩
/-- How a frame is left, and what recover finds. -/
def Fits (rec : Ifc) (u : FrameMode) : Prop := (u = .returning ∧ rec = none) ∨ ∃ p : TypeId × Value, rec = some p ∧ u = .panicking [{ v := .iface p.1 p.2, recovered := false }]
theorem recovers {f : FuncId} {id d1 d2 ty1 ty2 : Nat} {p1 p2 : String} {e1 e2 : Array Edge} {ct : Array TypeId} {c2 : Code} {args : Array Value} {rec : Ifc} {u : FrameMode} {w : World} {R : Hp → Prop} (hf : P.funcs[f]? = some fn)
    (hb : fn.body = some (.seq (.region id #[⟨some d1, .call { callee := .builtin .recover, args := #[], argTypes := ct }, ty1, p1, e1, none⟩, ⟨some d2, .assign (.tmp d1), ty2, p2, e2, none⟩] false) c2)) (hr : fn.results = #[]) (hn : Nat.ble args.size fn.ntmps = true)
    (hd1 : Nat.blt d1 fn.ntmps = true) (hd2 : Nat.blt d2 fn.ntmps = true) (hw : w.heap = h) (hu : Fits rec u)
    (hh : ∀ w0 : World, w0.heap = h → JC P none (dbod w0 R) w0 [] (dbod w0 R).ret [] fn.ntmps c2 ((d2, ifc rec) :: (d1, ifc rec) :: envOf 0 args.toList) h) :
    CallsDIn (wd none) 0 P f args u w fun e u' w' => settle u' = .returning ∧ ∃ v, e = .returned v ∧ Wd w w'.heap w' ∧ R w'.heap := by
  refine callsDIn_of_wpSIn hf hb trivial fun c₀ cs hc => ?_
  refine wpSIn_seq (wpSIn_region ?_)
  have hle : args.size ≤ fn.ntmps := Nat.le_of_ble_eq_true hn
  have hag : Ag [] fn.ntmps (envOf 0 args.toList) { tmps := args ++ Array.replicate (fn.ntmps - args.size) undef, defers := [] } := by
    refine ⟨by simp; omega, rfl, fun t v hv => ?_⟩
    obtain ⟨k, hk, hl⟩ := look_envOf _ _ _ _ hv
    have hlt : k < args.size := by
      rcases Nat.lt_or_ge k args.size with h' | h'
      · exact h'
      · rw [List.getElem?_eq_none (by simpa using h')] at hl; cases hl
    obtain rfl : t = k := by omega
    have : args[t]? = some v := by rw [← hl]; simp
    simp [Array.getElem?_append_left hlt, this]
  show wpOpsSIn _ _ _ _ _ [0, 1] _ _ _
  have key : ∀ (cs' : List Frame) (u' : FrameMode), cs' = { c₀ with mode := u' } :: cs → settle u' = .returning →
      Code.wpSIn (wd none) 0 P c2 (bodyPostS P fn c₀ cs fun e u' w' => settle u' = .returning ∧ ∃ v, e = .returned v ∧ Wd w w'.heap w' ∧ R w'.heap)
        (({ tmps := args ++ Array.replicate (fn.ntmps - args.size) undef, defers := [] } : Act).put (some d1) (ifc rec) |>.put (some d2) (ifc rec)) cs' w := by
    intro cs' u' hcs hset
    refine wpSIn_of_wpIn rfl ?_
    refine wpIn_mono (hh w hw _ w ((hag.put (d := some d1) (ifc rec) hd1).put (d := some d2) (ifc rec) hd2) ⟨hw, rfl, rfl, rfl⟩) fun e a w' q => ?_
    have fin : (dbod w R).ret a w' → a.defers = [] ∧ ∃ u', cs' = { c₀ with mode := u' } :: cs ∧ ∃ v, (results fn a.tmps).run P w' = .ok v w' ∧ settle u' = .returning ∧ ∃ v', Ending.returned v = .returned v' ∧ Wd w w'.heap w' ∧ R w'.heap :=
      fun ⟨q1, q2, q3⟩ => ⟨q1, u', hcs, _, res0 hr, hset, _, rfl, q2, q3⟩
    cases e with
    | normal => exact fin q
    | ret => exact fin q
    | panic c => exact q.elim
    | exit id => exact q.elim
    | goto l => exact q.elim
    | outgrown => exact q.elim
  have hd1' : d1 < fn.ntmps := by unfold Nat.blt at hd1; exact Nat.le_of_ble_eq_true hd1
  have step : ∀ (cs' : List Frame) (u' : FrameMode), cs' = { c₀ with mode := u' } :: cs → settle u' = .returning → (match recoverD (c₀ :: cs) with | some (v, cs'') => v = ifc rec ∧ cs'' = cs' | none => rec = none ∧ cs' = c₀ :: cs) →
      wpOpsSIn (wd none) 0 P #[⟨some d1, .call { callee := .builtin .recover, args := #[], argTypes := ct }, ty1, p1, e1, none⟩, ⟨some d2, .assign (.tmp d1), ty2, p2, e2, none⟩]
        (Exit.thenS (Code.wpSIn (wd none) 0 P c2 (bodyPostS P fn c₀ cs fun e u' w' => settle u' = .returning ∧ ∃ v, e = .returned v ∧ Wd w w'.heap w' ∧ R w'.heap)) (bodyPostS P fn c₀ cs fun e u' w' => settle u' = .returning ∧ ∃ v, e = .returned v ∧ Wd w w'.heap w' ∧ R w'.heap))
        [0, 1] { tmps := args ++ Array.replicate (fn.ntmps - args.size) undef, defers := [] } (c₀ :: cs) w := by
    intro cs' u' hcs hset hrec
    have hk := key cs' u' hcs hset
    have e0 : ∀ (a : Act) (w : World), (execOp a.eval ⟨some d1, .call { callee := .builtin .recover, args := #[], argTypes := ct }, ty1, p1, e1, none⟩).run P w = .ok .recover w := fun a w => by
      simp [execOp, resolve, invoke, builtin]
    have e2' : ∀ (a : Act) (w : World), (execOp a.eval ⟨some d2, .assign (.tmp d1), ty2, p2, e2, none⟩).run P w = .ok (.value (a.tmps.getD d1 undef)) w := fun a w => rfl
    have hv : ((({ tmps := args ++ Array.replicate (fn.ntmps - args.size) undef, defers := [] } : Act).put (some d1) (ifc rec)).tmps).getD d1 undef = ifc rec := by
      have := (hag.put (d := some d1) (ifc rec) hd1).vals d1 (ifc rec) look_cons_eq
      exact this
    unfold wpOpsSIn
    simp only [show ∀ (x y : Oper), (#[x, y] : Array Oper)[0]? = some x from fun _ _ => rfl]
    refine ⟨fun _ _ => trivial, ?_⟩
    rw [if_pos (by rfl)]
    rw [e0]
    simp only
    have fin : ∀ cs'', cs'' = cs' → wpOpsSIn (wd none) 0 P #[⟨some d1, .call { callee := .builtin .recover, args := #[], argTypes := ct }, ty1, p1, e1, none⟩, ⟨some d2, .assign (.tmp d1), ty2, p2, e2, none⟩]
        (Exit.thenS (Code.wpSIn (wd none) 0 P c2 (bodyPostS P fn c₀ cs fun e u' w' => settle u' = .returning ∧ ∃ v, e = .returned v ∧ Wd w w'.heap w' ∧ R w'.heap)) (bodyPostS P fn c₀ cs fun e u' w' => settle u' = .returning ∧ ∃ v, e = .returned v ∧ Wd w w'.heap w' ∧ R w'.heap))
        [1] (({ tmps := args ++ Array.replicate (fn.ntmps - args.size) undef, defers := [] } : Act).put (some d1) (ifc rec)) cs'' w := by
      rintro _ rfl
      unfold wpOpsSIn
      simp only [show ∀ (x y : Oper), (#[x, y] : Array Oper)[1]? = some y from fun _ _ => rfl]
      refine ⟨fun _ _ => trivial, ?_⟩
      rw [if_pos (by rfl)]
      rw [e2', hv]
      exact hk
    cases hr' : recoverD (c₀ :: cs) with
    | none =>
      rw [hr'] at hrec
      have := fin _ hrec.2.symm
      rw [hrec.1] at this
      exact this
    | some q =>
      rw [hr'] at hrec
      obtain ⟨v, cs''⟩ := q
      simp only at hrec ⊢
      rw [hrec.1]
      exact fin _ hrec.2
  rcases hu with ⟨rfl, rfl⟩ | ⟨p, rfl, rfl⟩
  · exact step (c₀ :: cs) .returning (by rw [← hc]) rfl (by simp [recoverD, hc])
  · exact step _ (.panicking [{ v := .iface p.1 p.2, recovered := true }]) rfl rfl (by simp [recoverD, hc, ifc])
/-- What a deferred closure does. -/
def DOk (P : Program) (rd : Deferred) (db : Ifc → Hp → (Hp → Prop) → Prop) : Prop :=
  ∀ rec h R, db rec h R → ∀ (w : World) (u : FrameMode), w.heap = h → Fits rec u → ∃ fv cap f args, rd.target = .fn fv cap ∧ (invoke rd.target rd.args).run P w = .ok (.enter f args) w ∧
    CallsDIn (wd none) 0 P f args u w fun e u' w' => settle u' = .returning ∧ ∃ v, e = .returned v ∧ Wd w w'.heap w' ∧ R w'.heap
/-- A panic that the deferred closure takes. -/
def DfrX (db : Ifc → Hp → (Hp → Prop) → Prop) (R : Hp → Prop) : Chain → Hp → Prop := fun c h => ∃ p : TypeId × Value, c = [{ v := .iface p.1 p.2, recovered := false }] ∧ db (some p) h R
def ResOk (P : Program) (fn : Func) (w0 : World) (K : Value → Hp → Prop) (rd : Deferred) (n : Nat) (E : Env) (h : Hp) : Prop := ∀ a w, Ag [rd] n E a → Wd w0 h w → ∃ v, (results fn a.tmps).run P w = .ok v w ∧ K v h
theorem leaves_dfr {rd : Deferred} {db : Ifc → Hp → (Hp → Prop) → Prop} {rec : Ifc} {u : FrameMode} {a : Act} {w : World} (hD : DOk P rd db) (ha : Ag [rd] n E a) (hw : Wd w0 h w) (hu : Fits rec u) {R : Hp → Prop} (hh : db rec h R) (hR : ∀ h', R h' → ResOk P fn w0 K rd n E h') :
    LeavesInM (wd none) 0 P fn a.tmps (RF w0 K X) a.defers u w := by
  rw [ha.defers]
  obtain ⟨fv, cap, f, args, h1, h2, h3⟩ := hD rec h _ hh w u hw.heap hu
  refine ⟨?_, .inr ⟨(fun hx => nomatch hx), fv, cap, f, args, h1, h2, fun _ _ => trivial, ?_⟩⟩
  · rcases hu with ⟨rfl, _⟩ | ⟨p, _, rfl⟩ <;> simp
  · refine h3.mono fun e u' w' ⟨hs, v, he, hw', hR'⟩ => ?_
    subst he
    show LeavesInM _ _ _ _ _ _ [] (settle u') w'
    rw [hs]
    obtain ⟨v, hv, hk⟩ := hR _ hR' a w' ha (hw.to hw')
    exact ⟨v, hv, hw.to hw', hk⟩
theorem JK.retD {rd : Deferred} {db : Ifc → Hp → (Hp → Prop) → Prop} {R : Hp → Prop} (hD : DOk P rd db) (hh : db none h R) (hR : ∀ h', R h' → ResOk P fn w0 K rd n E h') : JK w0 [rd] n (fbod P fn w0 K X).ret E h :=
  fun a w ha hw => leaves_dfr hD ha hw (.inl ⟨rfl, rfl⟩) hh hR
theorem panOk_d {rd : Deferred} {db : Ifc → Hp → (Hp → Prop) → Prop} {R : Hp → Prop} (hD : DOk P rd db) (hR : ∀ h', R h' → ResOk P fn w0 K rd n E h') : PanOk (fbod P fn w0 K X) w0 [rd] n E (DfrX db R) := fun c a w h ha hw ⟨p, hc, hb⟩ => by
  subst hc
  exact leaves_dfr hD ha hw (.inr ⟨p, rfl, rfl⟩) hb hR
/-- The deferring itself. -/
theorem JO.df {ops : Array Oper} {i j : Nat} (rd : Deferred) (hr : ∀ w, (execOp (ev E) (opAt ops i)).run P w = .ok (.defer rd) w) (hh : JO P B w0 (rd :: ds) D n ops N (i + 1) j (eput (opAt ops i).dst undef E) h)
    (h1 : Nat.blt i ops.size = true := by kernel_rfl) (h2 : Nat.blt i j = true := by kernel_rfl) (h3 : wantedE ops E (opAt ops i) = some true := by kernel_rfl) (h4 : dstOk n (opAt ops i).dst = true := by kernel_rfl)
    (h5 : known E (opAt ops i) = true := by kernel_rfl) : JO P B w0 ds D n ops N i j E h := by
  intro a w ha hwd
  rw [take_drop (opAt_some h1) h2]
  simp only [opsL]
  rw [if_pos (wanted_of ha h3)]
  unfold opw
  rw [ha.exec h5, hr w]
  exact hh _ _ ((Ag.mk (n := n) (E := E) (ds := rd :: ds) (a := { a with defers := rd :: a.defers }) ha.size (by rw [← ha.defers]) ha.vals).put undef h4) hwd
theorem opsL_in0 {ops : Array Oper} {Q : Exit → Act → World → Prop} : ∀ (m k : Nat) (a : Act) (w : World), k + m = ops.size → opsL P ops Q (ops.toList.drop k) (Q .normal) a w → wpOpsIn (wd none) 0 P ops Q (List.range' k m) a w := by
  intro m
  induction m with
  | zero =>
    intro k a w hk hh
    rw [List.drop_eq_nil_of_le (by simp; omega)] at hh
    exact hh
  | succ m ih =>
    intro k a w hk hh
    have hlt : k < ops.size := by omega
    have ho : ops[k]? = some ops[k] := by simp [hlt]
    rw [List.drop_eq_getElem_cons (by simpa using hlt)] at hh
    simp only [List.range'_succ, wpOpsIn, ho]
    simp only [opsL, Array.getElem_toList] at hh
    split
    · rename_i hw
      rw [if_pos hw] at hh
      refine ⟨fun _ _ => trivial, ?_⟩
      exact opw_mono (fun a w h => ih (k + 1) a w (by omega) h) (fun _ _ _ _ q => q) hh
    · rename_i hw
      rw [if_neg hw] at hh
      exact ⟨fun _ _ => trivial, ih (k + 1) _ _ (by omega) hh⟩
/-- A region in the text's order that may defer. -/
theorem JC.region0 {ops : Array Oper} {id : Nat} (hh : JO P B w0 ds D n ops N 0 ops.size E h) : JC P none B w0 ds N D n (.region id ops false) E h := by
  intro a w ha hw
  have h1 := hh a w ha hw
  rw [show (ops.toList.take ops.size).drop 0 = ops.toList from by rw [List.drop_zero, List.take_of_length_le (by simp)]] at h1
  refine wpIn_region ?_
  rw [List.range_eq_range']
  refine opsL_in0 _ 0 a w (by simp) ?_
  rw [List.drop_zero]
  refine opsL_monoQ (Q := QD B (fun _ _ => False) D) ?_ _ _ _ h1
  intro e a w he q
  cases e with
  | normal => exact absurd rfl he
  | _ => exact q
end
end Go.Proofs.YtefbonjcpdjhcaaGreatDoor.X
