/- A part of the proof: The card of ScriptReads: for every text that the form allows, the law returns true and leaves its argument as it was; the listed package-level variables of Go's library hold what their initialisers lay. -/
import Derived.Test.YtefbonjcpdjhcaaGreatDoorAbXM
/- Stage 1: maps with strings for keys; returns where marks stand; loops in which marks come. -/
set_option linter.unusedVariables false
namespace Go.Proofs.YtefbonjcpdjhcaaGreatDoor.X
open Go Go.RowKit

/-! ### Maps with strings for keys -/
abbrev Kvs := List (Str × Value)
def MapRep (h : Hp) (m : Nat) (kvs : Kvs) : Prop := ∃ es clock, h[m]? = some (.map es clock) ∧ es.toList.map (fun e => (e.key, e.val)) = kvs.map (fun p => (Value.string (ba p.1), p.2))
def kvfind (key : Str) : Kvs → Nat → Option (Nat × Value)
  | [], _ => none
  | p :: r, i => if key = p.1 then some (i, p.2) else kvfind key r (i + 1)
def kvget (key : Str) : Kvs → Option Value
  | [] => none
  | p :: r => if key = p.1 then some p.2 else kvget key r
def kvput (key : Str) (v : Value) : Kvs → Kvs
  | [] => [(key, v)]
  | p :: r => if key = p.1 then (p.1, v) :: r else p :: kvput key v r
def mapOf (h : Hp) : Option Nat → Kvs → Prop
  | none, kvs => kvs = []
  | some m, kvs => MapRep h m kvs
def MakeMapW (h : Hp) (k : Nat → Hp → Prop) : Prop := ∀ p h1, p = h.size → h1 = h.push (.map #[] 0) → k p h1
def MapPutW (h : Hp) (m : Nat) (key : Str) (v : Value) (k : Hp → Prop) : Prop :=
  ∃ kvs, MapRep h m kvs ∧ ∀ h1 : Hp, h1.size = h.size → (∀ b, b ≠ m → h1[b]? = h[b]?) → MapRep h1 m (kvput key v kvs) → k h1
def LookW {T : Type} (h : Hp) (m : Option Nat) (key : Str) (enc : T → Value) (zero : T) (k : T → Bool → Prop) : Prop :=
  ∃ (kvs : Kvs) (x : T) (ok : Bool), mapOf h m kvs ∧ (ok = true → kvget key kvs = some (enc x)) ∧ (ok = false → kvget key kvs = none ∧ x = zero) ∧ k x ok

theorem ba_beq (x y : Str) : (ba x == ba y) = decide (x = y) := by
  show ((ba x).data == (ba y).data) = _
  by_cases h : x = y
  · subst h; simp
  · have h' : (ba x).data ≠ (ba y).data := fun e => h (by injection e)
    rw [decide_eq_false h]
    exact beq_eq_false_iff_ne.2 h'
theorem findNow_kv (key : Str) : ∀ (es : List MapEntry) (kvs : Kvs) (i : Nat), es.map (fun e => (e.key, e.val)) = kvs.map (fun p => (Value.string (ba p.1), p.2)) →
    Instr.findNow .string (.string (ba key)) es i = some (kvfind key kvs i)
  | [], kvs, i, hm => by
    cases kvs with
    | nil => rfl
    | cons p r => simp at hm
  | e :: es, kvs, i, hm => by
    cases kvs with
    | nil => simp at hm
    | cons p r =>
      simp only [List.map_cons, List.cons.injEq, Prod.mk.injEq] at hm
      obtain ⟨⟨h1, h2⟩, hm⟩ := hm
      simp only [Instr.findNow, h1, Instr.sameNow, ba_beq, kvfind]
      by_cases hk : key = p.1
      · simp [hk, h2]
      · simp only [hk, decide_false, if_false]
        exact findNow_kv key es r (i + 1) hm
theorem kvfind_get (key : Str) : ∀ (kvs : Kvs) (i : Nat), (kvfind key kvs i).map (·.2) = kvget key kvs
  | [], _ => rfl
  | p :: r, i => by
    simp only [kvfind, kvget]
    split
    · rfl
    · exact kvfind_get key r (i + 1)
theorem kvfind_none {key : Str} {v : Value} : ∀ {kvs : Kvs} {i : Nat}, kvfind key kvs i = none → kvput key v kvs = kvs ++ [(key, v)]
  | [], _, _ => rfl
  | p :: r, i, hf => by
    simp only [kvfind] at hf
    split at hf
    · cases hf
    · rename_i hk
      simp only [kvput, hk, if_false, List.cons_append]
      rw [kvfind_none hf]
theorem kvfind_some {key : Str} {v : Value} : ∀ {kvs : Kvs} {i j : Nat} {u : Value}, kvfind key kvs i = some (j, u) → i ≤ j ∧ ∃ p, kvs[j - i]? = some p ∧ p.1 = key ∧ kvput key v kvs = kvs.set (j - i) (p.1, v)
  | [], _, _, _, hf => by cases hf
  | p :: r, i, j, u, hf => by
    simp only [kvfind] at hf
    split at hf
    · rename_i hk
      injection hf with hf
      injection hf with h1 h2
      subst h1
      exact ⟨Nat.le_refl _, p, by simp, hk.symm, by simp [kvput, hk]⟩
    · rename_i hk
      obtain ⟨hle, q, h1, h2, h3⟩ := kvfind_some (v := v) hf
      refine ⟨by omega, q, ?_, h2, ?_⟩
      · rw [show j - i = (j - (i + 1)) + 1 by omega]; simpa using h1
      · simp only [kvput, hk, if_false]
        rw [show j - i = (j - (i + 1)) + 1 by omega, List.set_cons_succ, h3]
section
variable {P : Program} {r : Option Nat} {B : Bod} {w0 : World} {ds : List Deferred} {X : Chain → Hp → Prop} {N : Dest} {D : List (Nat × Dest)} {n : Nat} {E : Env} {h : Hp} {o : Oper} {k : Value → Hp → Prop} {Q : Exit → Act → World → Prop}
theorem run_findKey {kt : TypeId} {key : Str} {es : List MapEntry} {kvs : Kvs} (hk : P.underlying kt = some .string) (hm : es.map (fun e => (e.key, e.val)) = kvs.map (fun p => (Value.string (ba p.1), p.2))) (w : World) :
    (Instr.findKey kt (.string (ba key)) es).run P w = .ok (kvfind key kvs 0) w := by
  unfold Instr.findKey
  rw [Sem.run_bind, run_underlying hk]
  simp only [Result.andThen, findNow_kv key es kvs 0 hm]
  rfl
theorem run_checkKey {kt : TypeId} {key : Str} {b : Bool} (hk : P.underlying kt = some .string) (w : World) : (Instr.checkKey b 10000 kt (.string (ba key))).run P w = .ok () w := by
  show (Instr.checkKey b (9999 + 1) kt (.string (ba key))).run P w = .ok () w
  unfold Instr.checkKey
  rw [Sem.run_bind, run_underlying hk]
  rfl
theorem run_getMap {m : Nat} {es : Array MapEntry} {clock : Nat} {w : World} (hb : w.heap[m]? = some (.map es clock)) : (getObj m).run P w = .ok (.map es clock) w := by
  simp [getObj, Sem.run, hb]
theorem run_lookup {xt kt et : TypeId} {m : Option Nat} {key : Str} {kvs : Kvs} {z : Value} {c : Bool} {w : World} (ht : P.underlying xt = some (.map kt et)) (hk : P.underlying kt = some .string) (hz : ∀ w, (zeroValue et).run P w = .ok z w) (hm : mapOf w.heap m kvs) :
    (Instr.lookup xt (.map m) (.string (ba key)) c).run P w = .ok (if c then .tuple #[(kvget key kvs).getD z, .bool (kvget key kvs).isSome] else (kvget key kvs).getD z) w := by
  have fin : ∀ (es : Array MapEntry), es.toList.map (fun e => (e.key, e.val)) = kvs.map (fun p => (Value.string (ba p.1), p.2)) →
      ((do
        Instr.checkKey es.isEmpty 10000 kt (.string (ba key))
        let (v, ok) ← match ← Instr.findKey kt (.string (ba key)) es.toList with
          | some (_, v) => pure (v, true)
          | none => pure (← zeroValue et, false)
        pure (if c then .tuple #[v, .bool ok] else v) : Sem Value)).run P w = .ok (if c then .tuple #[(kvget key kvs).getD z, .bool (kvget key kvs).isSome] else (kvget key kvs).getD z) w := by
    intro es he
    rw [Sem.run_bind, run_checkKey hk]
    simp only [Result.andThen]
    rw [Sem.run_bind, run_findKey hk he]
    simp only [Result.andThen]
    rw [← kvfind_get key kvs 0]
    cases kvfind key kvs 0 with
    | none => simp [hz]
    | some p => simp
  unfold Instr.lookup
  rw [Sem.run_bind, run_underlying ht]
  simp only [Result.andThen]
  cases m with
  | none =>
    have hm : kvs = [] := hm
    subst hm
    exact fin #[] rfl
  | some m =>
    obtain ⟨es, clock, hb, he⟩ := hm
    simp only
    rw [Sem.run_bind, run_getMap hb]
    exact fin es he
theorem Yld.lk {xt kt et : TypeId} {x ix : Operand} (m : Option Nat) (key : Str) {kvs : Kvs} {v z : Value} {ok : Bool} (hm : mapOf h m kvs) (h1 : ok = true → kvget key kvs = some v) (h0 : ok = false → kvget key kvs = none ∧ v = z)
    (ho : o.op = .lookup xt x ix true := by rfl) (hk : known E o = true := by kernel_rfl) (ht : P.underlying xt = some (.map kt et) := by kernel_rfl) (hkt : P.underlying kt = some .string := by kernel_rfl)
    (hz : ∀ w, (zeroValue et).run P w = .ok z w := by intro _; kernel_rfl) (hx : ev E x = .map m := by kernel_rfl) (hy : ev E ix = .string (ba key) := by kernel_rfl) : Yld P o E (· = h) (.tuple #[v, .bool ok]) := by
  intro ds n a w ha hw
  rw [ha.exec hk]
  have hw : w.heap = h := hw
  have := run_lookup (P := P) (w := w) (key := key) (c := true) ht hkt hz (by rw [hw]; exact hm)
  simp only [execOp, ho, hx, hy]
  refine run_v ?_
  rw [this]
  cases ok with
  | true => simp [h1 rfl]
  | false => simp [(h0 rfl).1, (h0 rfl).2]
theorem OpOk.mm {t : TypeId} (hh : ∀ p h1, p = h.size → h1 = h.push (.map #[] 0) → k (.map (some p)) h1) (ho : o.op = .makeMap t none := by rfl) (hk : known E o = true := by kernel_rfl) : OpOk P n w0 ds Q o E h k := by
  intro a w ha hw
  unfold opw
  rw [ha.exec hk]
  have : (execOp (ev E) o).run P w = .ok (.value (.map (some w.heap.size))) (w.alloc (.map #[] 0)) := by simp only [execOp, ho]; rfl
  rw [this]
  exact ⟨_, h.push (.map #[] 0), rfl, ⟨by show w.heap.push _ = _; rw [hw.heap], hw.os, hw.tape, hw.output⟩, by rw [hw.heap]; exact hh _ _ rfl rfl⟩
theorem run_setObj_map {m : Nat} {es es' : Array MapEntry} {clock clock' : Nat} {w : World} (hb : w.heap[m]? = some (.map es clock)) : (setObj m (.map es' clock')).run P w = .ok () (w.putObj m (.map es' clock')) := by
  simp [setObj, Sem.run, hb, World.putObj]
theorem same_self (v : Value) : ∀ (s : Str), v = .string (ba s) → Instr.sameBits 10000 v v = true := by
  rintro s rfl
  show (ba s == ba s) = true
  rw [ba_beq]; simp
theorem OpOk.mp {t kt et : TypeId} {x ix y : Operand} (m : Nat) (key : Str) (v : Value) {kvs : Kvs} (hm : MapRep h m kvs) (hh : ∀ h1 : Hp, h1.size = h.size → (∀ b, b ≠ m → h1[b]? = h[b]?) → MapRep h1 m (kvput key v kvs) → k undef h1)
    (ho : o.op = .insert t x ix y := by rfl) (hk : known E o = true := by kernel_rfl) (ht : P.underlying t = some (.map kt et) := by kernel_rfl) (hkt : P.underlying kt = some .string := by kernel_rfl)
    (hx : ev E x = .map (some m) := by kernel_rfl) (hi : ev E ix = .string (ba key) := by kernel_rfl) (hy : ev E y = v := by kernel_rfl) : OpOk P n w0 ds Q o E h k := by
  intro a w ha hw
  obtain ⟨es, clock, hb, he⟩ := hm
  have hbw : w.heap[m]? = some (.map es clock) := by rw [hw.heap]; exact hb
  have hlt : m < h.size := (Array.getElem?_eq_some_iff.1 hb).1
  have main : ∃ es' clock', (Instr.mapUpdate t (.map (some m)) (.string (ba key)) v).run P w = .ok () (w.putObj m (.map es' clock')) ∧ es'.toList.map (fun e => (e.key, e.val)) = (kvput key v kvs).map (fun p => (Value.string (ba p.1), p.2)) := by
    unfold Instr.mapUpdate
    rw [Sem.run_bind, run_underlying ht]
    simp only [Result.andThen]
    rw [Sem.run_bind, run_getMap hbw]
    simp only [Result.andThen]
    rw [Sem.run_bind, run_checkKey hkt]
    simp only [Result.andThen]
    rw [Sem.run_bind, run_findKey hkt he]
    simp only [Result.andThen]
    cases hf : kvfind key kvs 0 with
    | none =>
      simp only
      refine ⟨_, _, run_setObj_map hbw, ?_⟩
      rw [kvfind_none hf]
      simp [he]
    | some p =>
      obtain ⟨i, u⟩ := p
      simp only
      obtain ⟨_, q, h1, h2, h3⟩ := kvfind_some (v := v) hf
      simp only [Nat.sub_zero] at h1 h3
      have hlen : es.toList.length = kvs.length := by have := congrArg List.length he; simpa using this
      have hil : i < es.toList.length := by rw [hlen]; exact (List.getElem?_eq_some_iff.1 h1).1
      have hei : (es.toList.map (fun e => (e.key, e.val)))[i]? = some (Value.string (ba key), q.2) := by
        rw [he, List.getElem?_map, h1, ← h2]; rfl
      have hk' : ((es[i]?).map (·.key)).getD (.string (ba key)) = .string (ba key) := by
        have : es[i]? = some es.toList[i] := by rw [← Array.getElem?_toList]; exact List.getElem?_eq_getElem hil
        rw [List.getElem?_map, List.getElem?_eq_getElem hil] at hei
        simp only [Option.map_some, Option.some.injEq, Prod.mk.injEq] at hei
        rw [this]
        exact hei.1
      rw [hk', Sem.run_bind]
      have hs : (Instr.keyThatStays (.string (ba key)) (.string (ba key))).run P w = .ok (.string (ba key)) w := by
        unfold Instr.keyThatStays
        rw [same_self _ key rfl]
        rfl
      rw [hs]
      simp only [Result.andThen]
      refine ⟨_, _, run_setObj_map hbw, ?_⟩
      rw [h3]
      apply List.ext_getElem?
      intro j
      rw [List.getElem?_map, List.getElem?_map, Array.getElem?_toList, Array.getElem?_modify, List.getElem?_set]
      have hj : (es.toList.map (fun e => (e.key, e.val)))[j]? = (kvs.map (fun p => (Value.string (ba p.1), p.2)))[j]? := by rw [he]
      rw [List.getElem?_map, List.getElem?_map, Array.getElem?_toList] at hj
      by_cases e : i = j
      · subst e
        have hil' : i < kvs.length := by rw [← hlen]; exact hil
        rw [if_pos rfl, if_pos rfl, if_pos hil']
        have : es[i]? = some es[i] := Array.getElem?_eq_getElem (by simpa using hil)
        rw [this]
        simp [h2]
      · rw [if_neg e, if_neg e]
        exact hj
  obtain ⟨es', clock', hr, he'⟩ := main
  unfold opw
  rw [ha.exec hk]
  have : (execOp (ev E) o).run P w = .ok .skip (w.putObj m (.map es' clock')) := by
    simp only [execOp, ho, hx, hi, hy]
    rw [Sem.run_bind, hr]
    rfl
  rw [this]
  refine ⟨undef, h.setIfInBounds m (.map es' clock'), rfl, ⟨by show w.heap.setIfInBounds _ _ = _; rw [hw.heap], hw.os, hw.tape, hw.output⟩, hh _ (by simp) (fun b hb => ?_) ⟨es', clock', ?_, he'⟩⟩
  · exact Array.getElem?_setIfInBounds_ne (fun e => hb e.symm)
  · simp [hlt]

/-! ### Marks -/
/-- The blocks of the marks are shut, the last first. -/
def ShutW : List Nat → Hp → (Hp → Prop) → Prop
  | [], h, k => k h
  | D :: Ds, h, k => h[D]? = some (.deferred (some [])) ∧ ∀ h1 : Hp, h1 = h.setIfInBounds D (.deferred none) → ShutW Ds h1 k
theorem leaves_shut {fn : Func} {tm : Array Value} {K : Value → Hp → Prop} : ∀ (Ds : List Nat) (h : Hp) (w : World), Wd w0 h w →
    ShutW Ds h (fun h' => ∀ w', Wd w0 h' w' → ∃ v, (results fn tm).run P w' = .ok v w' ∧ K v h') → LeavesInM (wd none) 0 P fn tm (RF w0 K noX) (Ds.map mark) .returning w
  | [], h, w, hw, hh => by
    obtain ⟨v, hv, hk⟩ := hh w hw
    exact ⟨v, hv, by rw [hw.heap]; exact hw, by rw [hw.heap]; exact hk⟩
  | D :: Ds, h, w, hw, hh => by
    obtain ⟨h1, h2⟩ := hh
    refine ⟨by simp, .inl ⟨D, w.putObj D (.deferred none), rfl, run_takeDeferred (P := P) (by rw [hw.heap]; exact h1), ?_⟩⟩
    exact leaves_shut Ds _ _ ⟨by show w.heap.setIfInBounds _ _ = _; rw [hw.heap], hw.os, hw.tape, hw.output⟩ (h2 _ rfl)
theorem ShutW.mono {k k' : Hp → Prop} (hk : ∀ h, k h → k' h) : ∀ {Ds : List Nat} {h : Hp}, ShutW Ds h k → ShutW Ds h k'
  | [], _, hh => hk _ hh
  | _ :: _, _, hh => ⟨hh.1, fun h1 e => ShutW.mono hk (hh.2 h1 e)⟩
variable {fn : Func} {K : Value → Hp → Prop}
theorem JK.retM {Ds : List Nat} (hh : ShutW Ds h fun h' => ∀ a w, Ag (Ds.map mark) n E a → Wd w0 h' w → ∃ v, (results fn a.tmps).run P w = .ok v w ∧ K v h') : JK w0 (Ds.map mark) n (mbod P fn w0 K).ret E h := by
  intro a w ha hw
  show LeavesInM (wd none) 0 P fn a.tmps (RF w0 K noX) a.defers .returning w
  rw [ha.defers]
  exact leaves_shut Ds h w hw (hh.mono fun h' hk w' hw' => hk a w' ha hw')
theorem JK.retM0 {Ds : List Nat} (hh : ShutW Ds h fun h' => K (.tuple #[]) h') (hr : fn.results = #[] := by rfl) : JK w0 (Ds.map mark) n (mbod P fn w0 K).ret E h :=
  JK.retM (hh.mono fun h' hk a w _ _ => ⟨_, res0 hr, hk⟩)
theorem JK.retM1 {Ds : List Nat} {r1 : ResultVar} (hh : ShutW Ds h fun h' => ∃ v1, RVal P E h' r1 v1 ∧ K v1 h') (hr : fn.results = #[r1] := by rfl) : JK w0 (Ds.map mark) n (mbod P fn w0 K).ret E h :=
  JK.retM (hh.mono fun h' ⟨v1, h1, hk⟩ a w ha hw => ⟨_, resG1 hr (h1.run ha hw.heap), hk⟩)
theorem JK.retM2 {Ds : List Nat} {r1 r2 : ResultVar} (hh : ShutW Ds h fun h' => ∃ v1 v2, RVal P E h' r1 v1 ∧ RVal P E h' r2 v2 ∧ K (.tuple #[v1, v2]) h') (hr : fn.results = #[r1, r2] := by rfl) : JK w0 (Ds.map mark) n (mbod P fn w0 K).ret E h :=
  JK.retM (hh.mono fun h' ⟨v1, v2, h1, h2, hk⟩ a w ha hw => ⟨_, resG2 hr (h1.run ha hw.heap) (h2.run ha hw.heap), hk⟩)
/-- A result cell that is known through the heap. -/
theorem RVal.h1 {t ty : Nat} {p : Addr} {v : Value} (hc : hcells h p [v]) (hl : look E t = some (.pointer (some p)) := by kernel_rfl) (ht : isAggB P ty = some false := by kernel_rfl) : RVal P E h (.cell t ty) v :=
  ⟨p, hl, fun w hw => run_loadVar_one ht (by rw [hw]; exact hc 0 v rfl)⟩
theorem RVal.hN {t ty : Nat} {p : Addr} {vs : List Value} (hc : hcells h p vs) (hl : look E t = some (.pointer (some p)) := by kernel_rfl) (ht : isAggB P ty = some true := by kernel_rfl) (hs : (P.info? ty).map (·.size) = some vs.length := by kernel_rfl) :
    RVal P E h (.cell t ty) (.agg vs.toArray) := ⟨p, hl, fun w hw => run_loadVar_agg ht hs (by rw [hw]; exact hc)⟩
theorem CallH.ofM {f : FuncId} {c : Code} {args : Array Value} (hf : P.funcs[f]? = some fn) (hb : fn.body = some c) (hn : Nat.ble args.size fn.ntmps = true)
    (hh : ∀ w0, w0.heap = h → JC P none (mbod P fn w0 K) w0 [] (mbod P fn w0 K).ret [] fn.ntmps c (envOf 0 args.toList) h) : CallH P f args h K X := by
  refine CallH.mono (CallH.ofD (X := noX) hf hb hn fun w0 hw0 => ?_) (fun _ _ hk => hk) (fun _ _ hx => hx.elim)
  intro a w ha hw
  refine wpIn_mono (hh w0 hw0 a w ha hw) fun e a w q => ?_
  cases e with
  | panic c => exact q.elim
  | _ => exact q
/-- A loop in which marks may come. -/
def InvM {S : Type} (w0 : World) (dj : S → List Nat) (n : Nat) (Ej : S → Env) (k : S → Hp → Prop) : Dest := fun a w => ∃ s, Ag ((dj s).map mark) n (Ej s) a ∧ Wd w0 w.heap w ∧ k s w.heap
theorem JK.invM {S : Type} {Ds : List Nat} {dj : S → List Nat} {Ej : S → Env} {k : S → Hp → Prop} (s : S) (hs : Sub E (Ej s)) (hk : k s h) (hd : dj s = Ds := by rfl) : JK w0 (Ds.map mark) n (InvM w0 dj n Ej k) E h :=
  fun a w ha hw => ⟨s, by rw [hd]; exact ha.sub hs, by rw [hw.heap]; exact hw, by rw [hw.heap]; exact hk⟩
theorem JC.loopM {S : Type} {Ds : List Nat} {c : Code} (dj : S → List Nat) (Ej : S → Env) (I : S → Hp → Prop) (μ : S → Hp → Nat) (s0 : S) (hs : Sub E (Ej s0)) (h0 : I s0 h)
    (round : ∀ s h', I s h' → JC P r B w0 ((dj s).map mark) (InvM w0 dj n Ej fun s' h'' => I s' h'' ∧ μ s' h'' < μ s h') D n c (Ej s) h') (hd : dj s0 = Ds := by rfl) : JC P r B w0 (Ds.map mark) N D n (.loop c) E h := by
  intro a w ha hw
  refine wpIn_loop_num (fun m a w => ∃ s, Ag ((dj s).map mark) n (Ej s) a ∧ Wd w0 w.heap w ∧ I s w.heap ∧ μ s w.heap = m) (μ s0 h) a w
    ⟨s0, by rw [hd]; exact ha.sub hs, by rw [hw.heap]; exact hw, by rw [hw.heap]; exact h0, by rw [hw.heap]⟩ ?_
  rintro m a w ⟨s, hsa, hsw, hI, rfl⟩
  refine wpIn_mono (round s _ hI a w hsa hsw) fun e a' w' q => ?_
  cases e with
  | normal =>
    obtain ⟨s', g, k, hi, hlt⟩ := q
    exact ⟨_, hlt, s', g, k, hi, rfl⟩
  | _ => exact q
end
end Go.Proofs.YtefbonjcpdjhcaaGreatDoor.X
