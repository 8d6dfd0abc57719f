/- A part of the proof: The card of ScriptReads: for every text that the form allows, the law returns true and leaves its argument as it was; the listed package-level variables of Go's library hold what their initialisers lay. -/
import Derived.Test.YtefbonjcpdjhcaaGreatDoorAbXB
import Derived.Deep.AppendSrc
import Derived.Laws.IdiomCopy
import Derived.Laws.BytesString
/- Stage 1: the operations of the model, one lemma each, by what they do to the heap. -/
set_option linter.unusedVariables false
namespace Go.Proofs.YtefbonjcpdjhcaaGreatDoor.X
open Go Go.RowKit

/-! ### Typed values -/
structure Sl where
  a : Option Addr
  len : Nat
  cap : Nat
abbrev Str := List UInt8
abbrev ba (l : Str) : ByteArray := ⟨⟨l⟩⟩
/-- An interface value. -/
abbrev Ifc := Option (TypeId × Value)
def ifc : Ifc → Value
  | none => .nilIface
  | some p => .iface p.1 p.2
def bt (s : Str) (i : Int) : Int := ((s.getD i.toNat 0).toNat : Int)

/-- & | ^ &^ -/
def bitAnd (k : IntKind) (a b : Int) : Int := k.wrap (BitVec.ofInt k.bits a &&& BitVec.ofInt k.bits b).toNat
def bitOr (k : IntKind) (a b : Int) : Int := k.wrap (BitVec.ofInt k.bits a ||| BitVec.ofInt k.bits b).toNat
theorem ba_size (l : Str) : (ba l).size = l.length := rfl
theorem ba_append (x y : Str) : ba x ++ ba y = ba (x ++ y) := by
  have : (ba x ++ ba y).data = (ba (x ++ y)).data := by simp
  cases h : (ba x ++ ba y)
  rw [h] at this
  exact congrArg ByteArray.mk this
theorem ba_extract (x : Str) (i j : Nat) : (ba x).extract i j = ba ((x.take j).drop i) := by
  have : ((ba x).extract i j).data = (ba ((x.take j).drop i)).data := by
    simp only [ByteArray.data_extract]
    apply Array.ext'
    simp only [Array.toList_extract, List.extract_eq_take_drop]
    rw [List.take_drop]
    by_cases hij : i ≤ j
    · rw [show i + (j - i) = j from by omega]
    · rw [List.drop_eq_nil_of_le (by simp; omega), List.drop_eq_nil_of_le (by simp; omega)]
  cases h : (ba x).extract i j
  rw [h] at this
  exact congrArg ByteArray.mk this
theorem ba_toList (x : Str) : (ba x).toList = x := ByteArray.toList_mk x

section
variable {P : Program} {B : Bod} {w0 : World} {ds : List Deferred} {X : Chain → Hp → Prop} {N : Dest} {D : List (Nat × Dest)} {n : Nat} {E : Env} {h : Hp} {S : Hp → Prop} {o : Oper} {k : Value → Hp → Prop}

theorem run_v {v : Value} {s : Sem Value} {w : World} (hs : s.run P w = .ok v w) : ((do pure (Next.value (← s))) : Sem Next).run P w = .ok (.value v) w := by
  simp [hs]

/-! #### Calls -/
theorem OpOk.call {f : FuncId} {args : Array Value} (hk : known E o = true) (hr : ∀ w, (execOp (ev E) o).run P w = .ok (.enter f args) w)
    (hc : CallH P f args h k X) (hp : PanOk B w0 ds n E X) : OpOk P n w0 ds (QD B N D) o E h k := by
  intro a w ha hw
  unfold opw
  rw [ha.exec hk, hr w]
  refine ⟨(fun hx => nomatch hx), callsIn_wide.2 ((hc w hw.heap).mono fun e w' he => ?_)⟩
  cases e with
  | returned v => exact ⟨v, _, rfl, hw.to he.1, he.2⟩
  | panicked c => exact hp c a w' _ ha (hw.to he.1) he.2
  | outgrown => exact he.elim
theorem OpOk.panics {v : Value} (hk : known E o = true) (hr : ∀ w, (execOp (ev E) o).run P w = .halt (.panic v) w)
    (hx : X [{ v, recovered := false }] h) (hp : PanOk B w0 ds n E X) : OpOk P n w0 ds (QD B N D) o E h k := by
  intro a w ha hw
  unfold opw
  rw [ha.exec hk, hr w]
  exact hp _ a w h ha hw hx
/-- A new block. -/
theorem OpOk.push {v : Nat → Value} {ob : Obj} {Q : Exit → Act → World → Prop} (hk : known E o = true) (hr : ∀ w, (execOp (ev E) o).run P w = .ok (.value (v w.heap.size)) { w with heap := w.heap.push ob })
    (hh : k (v h.size) (h.push ob)) : OpOk P n w0 ds Q o E h k := by
  intro a w ha hw
  unfold opw
  rw [ha.exec hk, hr w]
  exact ⟨_, h.push ob, rfl, ⟨by rw [hw.heap], hw.os, hw.tape, hw.output⟩, by rw [hw.heap]; exact hh⟩

/-! #### Loads -/
def isAggB (P : Program) (t : TypeId) : Option Bool :=
  match P.underlying t with
  | some (.struct _) | some (.array _ _) => some true
  | some _ => some false
  | none => none
def hcells (h : Hp) (a : Addr) (vs : List Value) : Prop := ∀ j v, vs[j]? = some v → hcell h (a.add j) = some v
theorem run_loadVar_one {t : TypeId} {a : Addr} {v : Value} {w : World} (ht : isAggB P t = some false) (hc : hcell w.heap a = some v) : (loadVar t a).run P w = .ok v w := by
  unfold isAggB at ht
  have hc' : w.cell? a = some v := hc
  unfold loadVar isAgg
  cases hd : P.underlying t with
  | none => simp [hd] at ht
  | some d => cases d <;> first | (simp [hd] at ht; done) | simp [run_underlying hd, hc']
theorem run_loadVar_agg {t : TypeId} {a : Addr} {vs : List Value} {w : World} (ht : isAggB P t = some true) (hs : (P.info? t).map (·.size) = some vs.length) (hc : hcells w.heap a vs) :
    (loadVar t a).run P w = .ok (.agg vs.toArray) w := by
  unfold isAggB at ht
  have hl : (loadCells a vs.length).run P w = .ok vs.toArray w := run_loadCells_list w a vs hc
  unfold loadVar isAgg
  cases hi : P.info? t with
  | none => simp [hi] at hs
  | some i =>
    simp [hi] at hs
    cases hd : P.underlying t with
    | none => simp [hd] at ht
    | some d => cases d <;> first | (simp [hd] at ht; done) | simp [run_underlying hd, sizeOf, typeInfo, hi, hs, hl]
theorem Yld.load1 {t : TypeId} {x : Operand} {a : Addr} {v : Value} (ho : o.op = .load t x) (hk : knownO E x = true) (hx : ev E x = .pointer (some a)) (ht : isAggB P t = some false)
    (hc : ∀ h, S h → hcell h a = some v) : Yld P o E S v := by
  intro ds n a' w ha hw
  have : execOp a'.eval o = (do pure (Next.value (← Instr.loadAt t (a'.eval x)))) := by simp only [execOp, ho]
  rw [this, ha.evl hk, hx]
  exact run_v (by simp only [Instr.loadAt, Instr.sureAddr, pure_bind]; exact run_loadVar_one ht (hc _ hw))
theorem Yld.loadN {t : TypeId} {x : Operand} {a : Addr} (vs : List Value) (ho : o.op = .load t x) (hk : knownO E x = true) (hx : ev E x = .pointer (some a)) (ht : isAggB P t = some true)
    (hs : (P.info? t).map (·.size) = some vs.length) (hc : ∀ h, S h → hcells h a vs) : Yld P o E S (.agg vs.toArray) := by
  intro ds n a' w ha hw
  have : execOp a'.eval o = (do pure (Next.value (← Instr.loadAt t (a'.eval x)))) := by simp only [execOp, ho]
  rw [this, ha.evl hk, hx]
  exact run_v (by simp only [Instr.loadAt, Instr.sureAddr, pure_bind]; exact run_loadVar_agg ht hs (hc _ hw))

/-! #### Stores -/
def hsetsFrom (h : Hp) (a : Addr) : Nat → List Value → Hp
  | _, [] => h
  | i, v :: r => hsetsFrom (hset h (a.add i) v) a (i + 1) r
abbrev hsets (h : Hp) (a : Addr) (vs : List Value) : Hp := hsetsFrom h a 0 vs
/-- The cells from a on may be written. -/
def storable (h : Hp) (a : Addr) (m : Nat) : Prop := ∀ j, j < m → (hcell h (a.add j)).isSome = true ∧ hfrozen h (a.add j) = false
theorem hset_block (h : Hp) (a : Addr) (v : Value) (b : Nat) : (hset h a v)[b]? = if a.block = b then (h[b]?).map (fun
    | .cells c elem frozen => .cells (if a.spot.isSome then c else c.setIfInBounds a.off v) elem frozen
    | o => o) else h[b]? := by
  unfold hset
  rw [Array.getElem?_modify]
  by_cases e : a.block = b
  · rw [if_pos e, if_pos e]
    cases h[b]? with
    | none => rfl
    | some ob => cases ob <;> rfl
  · rw [if_neg e, if_neg e]
theorem hset_isSome (h : Hp) (a b : Addr) (v : Value) : (hcell (hset h a v) b).isSome = (hcell h b).isSome := by
  unfold hcell
  rw [hset_block]
  by_cases e : a.block = b.block
  · rw [if_pos e]
    cases hb : h[b.block]? with
    | none => rfl
    | some ob =>
      cases ob with
      | cells c elem frozen =>
        simp only [Option.map_some]
        by_cases hs : b.spot.isSome = true
        · rw [if_pos hs, if_pos hs]
        · rw [if_neg hs, if_neg hs]
          split
          · rfl
          · rw [Array.getElem?_setIfInBounds]
            split
            · split
              · rename_i h1 h2; rw [← h1, Array.getElem?_eq_getElem h2]; rfl
              · rename_i h1 h2; rw [← h1, Array.getElem?_eq_none (by omega)]
            · rfl
      | _ => rfl
  · rw [if_neg e]
theorem hset_frozen (h : Hp) (a b : Addr) (v : Value) : hfrozen (hset h a v) b = hfrozen h b := by
  unfold hfrozen
  rw [hset_block]
  by_cases e : a.block = b.block
  · rw [if_pos e]
    cases hb : h[b.block]? with
    | none => rfl
    | some ob => cases ob <;> rfl
  · rw [if_neg e]
theorem storable_set {h : Hp} {a : Addr} {m : Nat} (hs : storable h a m) (b : Addr) (v : Value) : storable (hset h b v) a m :=
  fun j hj => ⟨by rw [hset_isSome]; exact (hs j hj).1, by rw [hset_frozen]; exact (hs j hj).2⟩
theorem run_storeCells {a : Addr} : ∀ (vs : List Value) (i : Nat) (w : World), storable w.heap a (i + vs.length) → (∀ v ∈ vs, v.oneCell' = true) →
    (storeCells a vs i).run P w = .ok () { w with heap := hsetsFrom w.heap a i vs }
  | [], i, w, _, _ => rfl
  | v :: r, i, w, hs, h1 => by
    have h0 := hs i (by simp)
    obtain ⟨u, hu⟩ := Option.isSome_iff_exists.1 h0.1
    have hst : (store (a.add i) v).run P w = .ok () (w.setCell (a.add i) v) := by
      rw [run_store P w _ v _ (h1 v (by simp)), show w.cell? (a.add i) = some u from hu]
      simp only [show w.frozen? (a.add i) = false from h0.2]
      rfl
    have ih := run_storeCells r (i + 1) (w.setCell (a.add i) v) (by
      have := storable_set hs (a.add i) v
      rw [show i + 1 + r.length = i + (v :: r).length by simp; omega]
      exact this) (fun x hx => h1 x (by simp [hx]))
    simp only [storeCells, Sem.run_bind, hst, Result.andThen, ih]
    rfl
theorem OpOk.store {t : TypeId} {x y : Operand} {a : Addr} {vs : List Value} {Q : Exit → Act → World → Prop} (ho : o.op = .store t x y) (hk : known E o = true) (hx : ev E x = .pointer (some a))
    (hy : (ev E y).cells = vs.toArray) (ht : (P.info? t).map (·.size) = some vs.length) (h1 : vs.all (·.oneCell') = true) (hs : storable h a vs.length) (hh : k undef (hsets h a vs)) : OpOk P n w0 ds Q o E h k := by
  intro a' w ha hw
  unfold opw
  have : (execOp (ev E) o).run P w = .ok .skip { w with heap := hsets w.heap a vs } := by
    cases hi : P.info? t with
    | none => simp [hi] at ht
    | some i =>
      simp [hi] at ht
      have hst := run_storeCells (P := P) (a := a) vs 0 w (by rw [hw.heap]; simpa using hs) (fun v hv => List.all_eq_true.1 h1 v hv)
      simp only [execOp, ho, Instr.storeAt, hx, Instr.sureAddr, pure_bind, storeVar, hy]
      simp [sizeOf, typeInfo, hi, ht, hst]
  rw [ha.exec hk, this]
  exact ⟨undef, hsets h a vs, rfl, ⟨by simp only [hw.heap], hw.os, hw.tape, hw.output⟩, hh⟩

/-! #### Strings -/
theorem exec_index {x y : Operand} {xt : TypeId} {s : Str} {kd : IntKind} {i : Int} (ho : o.op = .index xt x y) (ht : P.underlying xt = some .string) (hx : ev E x = .string (ba s)) (hy : ev E y = .int kd i)
    (h0 : 0 ≤ i) (h1 : i < s.length) (w : World) : (execOp (ev E) o).run P w = .ok (.value (.int .u8 (bt s i))) w := by
  have hlt : i.toNat < s.length := by omega
  have hg : (ba s)[i.toNat]? = some s[i.toNat] := by
    rw [getElem?_pos (ba s) i.toNat (by rw [ba_size]; exact hlt)]
    rfl
  simp only [execOp, ho]
  refine run_v ?_
  simp only [Instr.index, hx, hy, asIntOf, pure_bind]
  rw [Sem.run_bind, run_underlying ht]
  simp [Result.andThen, h0, hg, bt, hlt]
theorem Yld.index {x y : Operand} {xt : TypeId} {s : Str} {kd : IntKind} {i : Int} (ho : o.op = .index xt x y) (hk : known E o = true) (ht : P.underlying xt = some .string) (hx : ev E x = .string (ba s)) (hy : ev E y = .int kd i)
    (hb : 0 ≤ i ∧ i < s.length) : Yld P o E S (.int .u8 (bt s i)) :=
  .runs_ hk (exec_index ho ht hx hy hb.1 hb.2)
/-- The bounds of a slice of a string. -/
def lo (x : Option Int) : Int := match x with | some i => i | none => 0
def hi (l : Int) (x : Option Int) : Int := match x with | some i => i | none => l
def sub (s : Str) (i j : Int) : Str := (s.take j.toNat).drop i.toNat
def optInt (E : Env) : Option Operand → Option (Option Int)
  | none => some none
  | some x => match ev E x with
    | .int _ i => some (some i)
    | _ => none
theorem run_bound {v : Value} {kd : IntKind} {i : Int} {y : Nat} {c : BoundsCode} {w : World} (hv : v = .int kd i) (h0 : 0 ≤ i) (h1 : i ≤ y) : (Instr.sliceBound v y c).run P w = .ok i.toNat w := by
  subst hv
  simp [Instr.sliceBound, asIntOf, h0, h1]
theorem optInt_some {x : Operand} {z : Option Int} (hl : optInt E (some x) = some z) : ∃ kd i, ev E x = .int kd i ∧ z = some i := by
  simp only [optInt] at hl
  split at hl
  · rename_i kd i hv
    injection hl with hl
    exact ⟨kd, i, hv, hl.symm⟩
  · cases hl
theorem run_bounds {b : Bool} {len cap : Nat} {l r : Option Operand} {l' r' : Option Int} {w : World} (hl : optInt E l = some l') (hr : optInt E r = some r')
    (hb : 0 ≤ lo l' ∧ lo l' ≤ hi len r' ∧ hi len r' ≤ cap) : (Instr.sliceBounds b len cap (l.map (ev E)) (r.map (ev E)) none).run P w = .ok ((lo l').toNat, (hi len r').toNat, cap) w := by
  obtain ⟨h0, h1, h2⟩ := hb
  have h3 : 0 ≤ hi len r' := Int.le_trans h0 h1
  cases r with
  | none =>
    injection hr with hr; subst hr
    cases l with
    | none => injection hl with hl; subst hl; simp [Instr.sliceBounds, lo, hi]
    | some x =>
      obtain ⟨kd, i, hv, rfl⟩ := optInt_some hl
      simp only [lo, hi] at h0 h1 ⊢
      simp [Instr.sliceBounds, hv, run_bound (P := P) rfl h0 h1]
  | some y =>
    obtain ⟨kd, i, hv, rfl⟩ := optInt_some hr
    simp only [hi] at h1 h2 h3 ⊢
    cases l with
    | none =>
      injection hl with hl; subst hl
      simp [Instr.sliceBounds, hv, run_bound (P := P) rfl h3 h2, lo]
    | some x =>
      obtain ⟨kd', i', hv', rfl⟩ := optInt_some hl
      simp only [lo] at h0 h1 ⊢
      have := run_bound (P := P) (y := i.toNat) (c := .sliceB) (w := w) (kd := kd') rfl h0 (by omega)
      simp [Instr.sliceBounds, hv, hv', run_bound (P := P) rfl h3 h2, this]
theorem Yld.sliceStr {x : Operand} {l r : Option Operand} {xt : TypeId} {s : Str} {l' r' : Option Int} (ho : o.op = .slice xt x l r none) (hk : known E o = true) (ht : P.underlying xt = some .string) (hx : ev E x = .string (ba s))
    (hl : optInt E l = some l') (hr : optInt E r = some r') (hb : 0 ≤ lo l' ∧ lo l' ≤ hi s.length r' ∧ hi s.length r' ≤ s.length) : Yld P o E S (.string (ba (sub s (lo l') (hi s.length r')))) := by
  refine .runs_ hk fun w => ?_
  simp only [execOp, ho]
  refine run_v ?_
  have hB := run_bounds (P := P) (b := false) (w := w) hl hr hb
  unfold Instr.sliceAt
  rw [Sem.run_bind, run_underlying ht]
  simp only [Result.andThen, Instr.slice]
  rw [Sem.run_bind, run_underlying ht]
  simp only [Result.andThen, hx, Option.map_none, Option.isSome_none, Bool.false_eq_true, if_false, ba_size]
  rw [Sem.run_bind, hB]
  simp only [Result.andThen, ba_extract]
  rfl
/-- A piece of a slice. -/
def Sl.cut (s : Sl) (size : Nat) (i j : Int) : Sl := ⟨if s.cap = i.toNat then s.a else s.a.map (·.add (i.toNat * size)), j.toNat - i.toNat, s.cap - i.toNat⟩
abbrev sl (s : Sl) : Value := .slice s.a s.len s.cap
theorem Yld.sliceSl {x : Operand} {l r : Option Operand} {xt e : TypeId} {size : Nat} {s : Sl} {l' r' : Option Int} (ho : o.op = .slice xt x l r none) (hk : known E o = true) (ht : P.underlying xt = some (.slice e))
    (hs : (P.info? e).map (·.size) = some size) (hx : ev E x = sl s) (hl : optInt E l = some l') (hr : optInt E r = some r') (hb : 0 ≤ lo l' ∧ lo l' ≤ hi s.len r' ∧ hi s.len r' ≤ s.cap) :
    Yld P o E S (sl (s.cut size (lo l') (hi s.len r'))) := by
  refine .runs_ hk fun w => ?_
  simp only [execOp, ho]
  refine run_v ?_
  have hB := run_bounds (P := P) (b := true) (w := w) hl hr hb
  cases hi : P.info? e with
  | none => simp [hi] at hs
  | some inf =>
    simp [hi] at hs
    unfold Instr.sliceAt
    rw [Sem.run_bind, run_underlying ht]
    simp only [Result.andThen, Instr.slice]
    rw [Sem.run_bind, run_underlying ht]
    simp only [Result.andThen, hx, Option.map_none]
    rw [Sem.run_bind, hB]
    simp [Result.andThen, sizeOf, typeInfo, hi, hs, Sl.cut]
/-- The address of an element. -/
theorem Yld.indexAddr {x y : Operand} {xt e : TypeId} {size : Nat} {s : Sl} {b : Addr} {kd : IntKind} {i : Int} (ho : o.op = .indexAddr xt x y) (hk : known E o = true) (ht : P.underlying xt = some (.slice e))
    (hs : (P.info? e).map (·.size) = some size) (hx : ev E x = sl s) (hy : ev E y = .int kd i) (hb : 0 ≤ i ∧ i < s.len) (ha : s.a = some b) : Yld P o E S (.pointer (some (b.add (i.toNat * size)))) := by
  refine .runs_ hk fun w => ?_
  simp only [execOp, ho]
  refine run_v ?_
  cases hi : P.info? e with
  | none => simp [hi] at hs
  | some inf =>
    simp [hi] at hs
    unfold Instr.indexAt
    simp [asIntOf, hx, hy, run_underlying ht, ha, hb.1, hb.2, sizeOf, typeInfo, hi, hs]
/-- Division by a number that is not 0. -/
theorem Yld.quo {x y : Operand} {xt yt : TypeId} {kd : IntKind} {i j : Int} (ho : o.op = .binOp .quo xt x y yt) (hk : known E o = true) (hx : ev E x = .int kd i) (hy : ev E y = .int kd j) (hj : j ≠ 0) :
    Yld P o E S (.int kd (kd.wrap (i.tdiv j))) := by
  refine .runs_ hk fun w => ?_
  simp only [execOp, ho]
  refine run_v ?_
  simp [hx, hy, eqGuard, binOp, Op.intDiv, hj]
/-- 1: an interface; 2: a pointer; 3: a slice. -/
def tkind (P : Program) (t : TypeId) : Nat :=
  match P.underlying t with
  | some (.interface _) => 1
  | some (.pointer _) => 2
  | some (.slice _) => 3
  | _ => 0
theorem tkind1 {t : TypeId} (h : tkind P t = 1) : ∃ ms, P.underlying t = some (.interface ms) := by
  unfold tkind at h
  split at h <;> first | (exact ⟨_, ‹_›⟩) | cases h
/-- Two interface values, one of them nil. -/
theorem run_equalIn_nil {d : Nat} {xt : TypeId} {ms : Array (String × TypeId)} (ht : P.underlying xt = some (.interface ms)) (v : Ifc) (w : World) :
    (Op.equalIn (d + 1) xt (ifc v) .nilIface).run P w = .ok v.isNone w := by
  unfold Op.equalIn
  rw [Sem.run_bind, run_underlying ht]
  cases v <;> rfl
theorem run_equal_nil {xt : TypeId} {ms : Array (String × TypeId)} (ht : P.underlying xt = some (.interface ms)) (v : Ifc) (w : World) :
    (Op.equal xt (ifc v) .nilIface).run P w = .ok v.isNone w := run_equalIn_nil (d := 9999) ht v w
theorem Yld.eqlNil {x : Operand} {xt yt : TypeId} {v : Ifc} (ho : o.op = .binOp .eql xt x (.const .nilIface) yt) (hk : known E o = true) (ht' : tkind P xt = 1) (hx : ev E x = ifc v) :
    Yld P o E S (.bool v.isNone) := by
  obtain ⟨_, ht⟩ := tkind1 ht'
  refine .runs_ hk fun w => ?_
  simp only [execOp, ho]
  refine run_v ?_
  rw [hx]
  rw [Sem.run_bind, show (eqGuard .eql xt x (.const .nilIface) (ifc v) (ev E (.const .nilIface))).run P w = .ok () w by cases v <;> (cases x <;> rfl)]
  simp only [Result.andThen]
  rw [show (binOp .eql xt (ifc v) (ev E (.const .nilIface))) = (do pure (.bool (← Op.equal xt (ifc v) .nilIface))) by cases v <;> rfl]
  rw [Sem.run_bind, run_equal_nil ht]
  rfl
theorem Yld.neqNil {x : Operand} {xt yt : TypeId} {v : Ifc} (ho : o.op = .binOp .neq xt x (.const .nilIface) yt) (hk : known E o = true) (ht' : tkind P xt = 1) (hx : ev E x = ifc v) :
    Yld P o E S (.bool !v.isNone) := by
  obtain ⟨_, ht⟩ := tkind1 ht'
  refine .runs_ hk fun w => ?_
  simp only [execOp, ho]
  refine run_v ?_
  rw [hx]
  rw [Sem.run_bind, show (eqGuard .neq xt x (.const .nilIface) (ifc v) (ev E (.const .nilIface))).run P w = .ok () w by cases v <;> (cases x <;> rfl)]
  simp only [Result.andThen]
  rw [show (binOp .neq xt (ifc v) (ev E (.const .nilIface))) = (do pure (.bool (!(← Op.equal xt (ifc v) .nilIface)))) by cases v <;> rfl]
  rw [Sem.run_bind, run_equal_nil ht]
  rfl
theorem Yld.concat {x y : Operand} {xt yt : TypeId} {s t : Str} (ho : o.op = .binOp .add xt x y yt) (hk : known E o = true) (hx : ev E x = .string (ba s)) (hy : ev E y = .string (ba t))
    (hb : s.length + t.length ≤ maxLen) : Yld P o E S (.string (ba (s ++ t))) := by
  refine .runs_ hk fun w => ?_
  simp only [execOp, ho]
  refine run_v ?_
  have : ¬ (((s.length + t.length : Nat) : Int) > IntKind.i64.max) := by
    have : IntKind.i64.max = 9223372036854775807 := by decide
    rw [this]; unfold maxLen at hb; omega
  rw [hx, hy, Sem.run_bind]
  show (binOp .add xt (.string (ba s)) (.string (ba t))).run P w = _
  simp only [binOp, Op.stringOp, ba_size, ba_append]
  rw [if_neg this]
  rfl
/-- x == y and its kin on strings. -/
def cmpS : BinOp → Str → Str → Bool
  | .eql, s, t => s == t
  | .neq, s, t => !(s == t)
  | .lss, s, t => Op.bytesLess s t
  | .leq, s, t => Op.bytesLess s t || s == t
  | .gtr, s, t => !(Op.bytesLess s t || s == t)
  | .geq, s, t => !(Op.bytesLess s t)
  | _, _, _ => false
def isCmp : BinOp → Bool
  | .eql | .neq | .lss | .leq | .gtr | .geq => true
  | _ => false
theorem Yld.cmpStr {op : BinOp} {x y : Operand} {xt yt : TypeId} {s t : Str} (ho : o.op = .binOp op xt x y yt) (hk : known E o = true) (hop : isCmp op = true) (hx : ev E x = .string (ba s)) (hy : ev E y = .string (ba t)) :
    Yld P o E S (.bool (cmpS op s t)) := by
  refine .runs_ hk fun w => ?_
  simp only [execOp, ho]
  refine run_v ?_
  rw [hx, hy, Sem.run_bind]
  have e : Sem.run P (eqGuard op xt x y (.string (ba s)) (.string (ba t))) w = .ok () w := by cases op <;> rfl
  rw [e]
  show (binOp op xt (.string (ba s)) (.string (ba t))).run P w = _
  cases op <;> first | (cases hop; done) | (simp only [binOp, Op.stringOp, ba_toList]; rfl)

/-! #### append -/
def SlCells (h : Hp) (a : Option Addr) (vs : List Value) : Prop := vs ≠ [] → ∃ b, a = some b ∧ hcells h b vs
def zeros (z : List Value) (m : Nat) : List Value := (Builtin.zeroCells z.toArray m).toList
/-- append: size, bytes: an element's; z: its zero cells; ty: its type; new: the cells behind. -/
def AppendW (h : Hp) (ty size bytes : Nat) (z : List Value) (dst : Sl) (m : Nat) (old new : List Value) (k : Sl → Hp → Prop) : Prop :=
  dst.len ≤ dst.cap ∧ (dst.len + m) * bytes ≤ 140737488355328 ∧ dst.len + m ≤ 9223372036854775807 ∧ old.length = dst.len * size ∧ SlCells h dst.a old ∧
  (m = 0 → k dst h) ∧
  (0 < m → dst.len + m ≤ dst.cap → ∃ g off, dst.a = some ⟨g, off, none⟩ ∧ storable h ⟨g, off + dst.len * size, none⟩ new.length ∧ k ⟨dst.a, dst.len + m, dst.cap⟩ (hsets h ⟨g, off + dst.len * size, none⟩ new)) ∧
  (dst.cap < dst.len + m → ∀ c, dst.len + m ≤ c → c ≤ maxLen → k ⟨some ⟨h.size, 0, none⟩, dst.len + m, c⟩ (h.push (.cells (old ++ new ++ zeros z (c - (dst.len + m))).toArray ty)))
theorem setCells_heap : ∀ (vs : List Value) (b off i : Nat) (w : World), w.setCells b (off + i) vs = { w with heap := hsetsFrom w.heap ⟨b, off, none⟩ i vs }
  | [], _, _, _, _ => rfl
  | v :: r, b, off, i, w => by
    have := setCells_heap r b off (i + 1) (w.setCell ⟨b, off + i, none⟩ v)
    simp only [World.setCells, hsetsFrom]
    rw [show off + i + 1 = off + (i + 1) by omega, this, Addr.add_lit]
    rfl
theorem exec_append {x y : Operand} {t tx : TypeId} (ho : o.op = .call { callee := .builtin .append, args := #[x, y], argTypes := #[t, tx] }) {w w' : World} {v : Value}
    (hr : (Builtin.append_ #[t, tx] o.type #[ev E x, ev E y]).run P w = .ok v w') : (execOp (ev E) o).run P w = .ok (.value v) w' := by
  simp only [execOp, ho]
  simp [resolve, invoke, builtin, hr]
theorem firstCells_sl (size : Nat) {s : Sl} {vs : List Value} (w : World) (hl : vs.length = s.len * size) (hc : SlCells w.heap s.a vs) : (Builtin.firstCells size s.len (sl s)).run P w = .ok vs.toArray w := by
  cases ha : s.a with
  | none =>
    have : vs = [] := by
      by_cases hv : vs = []
      · exact hv
      · obtain ⟨b, hb, _⟩ := hc hv
        rw [ha] at hb; cases hb
    subst this
    rw [sl, ha]
    exact run_firstCells_none w ..
  | some b =>
    rw [sl, ha]
    refine run_firstCells_some w size s.len b s.len s.cap vs hl ?_
    by_cases hv : vs = []
    · subst hv; intro j v hj; simp at hj
    · obtain ⟨b', hb, hcc⟩ := hc hv
      rw [ha] at hb
      injection hb with hb
      subst hb
      exact hcc
theorem OpOk.append_ {x y : Operand} {t tx e : TypeId} {i : TypeInfo} {z : Value} {dst : Sl} {v : Value} {m : Nat} {old new : List Value} {k : Sl → Hp → Prop} {Q : Exit → Act → World → Prop}
    (ho : o.op = .call { callee := .builtin .append, args := #[x, y], argTypes := #[t, tx] }) (hk : known E o = true) (ht : P.underlying t = some (.slice e)) (hi : P.info? e = some i) (hz : i.zero = some z)
    (hx : ev E x = sl dst) (hy : ev E y = v) (hs : ∀ w : World, w.heap = h → Src P i.size tx v m new w) (hb0 : 0 < i.bytes)
    (hh : AppendW h e i.size i.bytes z.cells.toList dst m old new k) : OpOk P n w0 ds Q o E h fun v h' => ∃ s, v = sl s ∧ k s h' := by
  intro a w ha hw
  obtain ⟨h1, h2, h3, h4, h5, h6, h7, h8⟩ := hh
  have hsrc := hs w hw.heap
  unfold opw
  rw [ha.exec hk]
  by_cases hm : m = 0
  · have hn : new = [] := by
      have := hsrc.newsLen
      rw [hm] at this
      exact List.eq_nil_of_length_eq_zero (by simpa using this)
    have : (Builtin.append_ #[t, tx] o.type #[ev E x, ev E y]).run P w = .ok (sl dst) w := by
      rw [hx, hy]
      have hc := hsrc.cells
      rw [hm, hn] at hc
      have hl := hsrc.len
      rw [hm] at hl
      rcases hsrc.kind with ⟨e', hk'⟩ | hk' <;>
        (cases hb : dst.a <;> simp [Builtin.append_, sl, run_underlying ht, run_underlying hk', sizeOf, typeInfo, hi, hl, h1, hc, hb, storeCells])
    rw [exec_append ho this]
    exact ⟨_, h, rfl, hw, dst, rfl, h6 hm⟩
  · by_cases hroom : dst.len + m ≤ dst.cap
    · obtain ⟨g, off, hb, hst, hkk⟩ := h7 (by omega) hroom
      have hc : ∀ j, j < new.length → (w.cell? ⟨g, off + dst.len * i.size + j, none⟩).isSome = true ∧ w.frozen? ⟨g, off + dst.len * i.size + j, none⟩ = false := by
        intro j hj
        have := hst j hj
        rw [Addr.add_lit, ← hw.heap] at this
        exact this
      have := run_append_room_src w t tx o.type e i ht hi g off dst.len dst.cap v m new hsrc hroom (fun j hj => (hc j hj).1) (fun j hj => (hc j hj).2)
      rw [show (Value.slice (some ⟨g, off, none⟩) dst.len dst.cap) = sl dst by rw [sl, hb], ← hx, ← hy, show off + dst.len * i.size = off + dst.len * i.size + 0 from rfl, setCells_heap] at this
      rw [exec_append ho this]
      refine ⟨_, hsets h ⟨g, off + dst.len * i.size, none⟩ new, rfl, ⟨?_, hw.os, hw.tape, hw.output⟩, ⟨dst.a, dst.len + m, dst.cap⟩, ?_, hkk⟩
      · simp only [hw.heap]
      · rw [sl, hb]
    · have hg : dst.cap < dst.len + m := by omega
      have hold := firstCells_sl (P := P) i.size (s := dst) (vs := old) w.drew h4 (by rw [show w.drew.heap = h from hw.heap]; exact h5)
      have := run_append_grow_src w t tx o.type e i z ht hi hz dst.a dst.len dst.cap old hold v m new hsrc hg (by omega) (growslice_fits hg h2)
      rw [show (Value.slice dst.a dst.len dst.cap) = sl dst from rfl, ← hx, ← hy] at this
      rw [exec_append ho this]
      have h9 := h8 hg (grownCap w (dst.len + m) dst.cap e) (grownCap_ge w _ _ _) (grownCap_le_maxLen w _ _ _ (by unfold maxLen; omega))
      refine ⟨_, _, rfl, ⟨?_, hw.os, hw.tape, hw.output⟩, _, ?_, h9⟩
      · show w.heap.push _ = h.push _
        rw [hw.heap]
        congr 2
        apply Array.ext'
        simp [zeros]
      · simp only [sl, hw.heap]

/-! #### With the new heap as a letter -/
theorem OpOk.box {ob : Obj} {Q : Exit → Act → World → Prop} (v : Nat → Value) (hk : known E o = true) (hr : ∀ w, (execOp (ev E) o).run P w = .ok (.value (v w.heap.size)) { w with heap := w.heap.push ob })
    (hh : ∀ p h1, p = h.size → h1 = h.push ob → k (v p) h1) : OpOk P n w0 ds Q o E h k := OpOk.push hk hr (hh _ _ rfl rfl)
theorem OpOk.put_ {t : TypeId} {x y : Operand} {a : Addr} {Q : Exit → Act → World → Prop} (vs : List Value) (ho : o.op = .store t x y) (hk : known E o = true) (hx : ev E x = .pointer (some a))
    (hy : (ev E y).cells = vs.toArray) (ht : (P.info? t).map (·.size) = some vs.length) (h1 : vs.all (·.oneCell') = true) (hs : storable h a vs.length) (hh : ∀ h1, h1 = hsets h a vs → k undef h1) : OpOk P n w0 ds Q o E h k :=
  OpOk.store ho hk hx hy ht h1 hs (hh _ rfl)
theorem Yld.nil {x : Operand} {p : Option Addr} {a : Addr} (ho : o.op = .nilCheck x) (hk : known E o = true) (hx : ev E x = .pointer p) (hp : p = some a) : Yld P o E S (.pointer (some a)) :=
  .runs_ hk fun w => by subst hp; simp only [execOp, ho, hx]; rfl
end
end Go.Proofs.YtefbonjcpdjhcaaGreatDoor.X
