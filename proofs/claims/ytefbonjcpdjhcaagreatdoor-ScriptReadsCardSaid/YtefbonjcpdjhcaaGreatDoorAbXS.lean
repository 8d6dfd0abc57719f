/- A part of the proof: The card of ScriptReads: for every text that the form allows, the law returns true and leaves its argument as it was; the listed package-level variables of Go's library hold what their initialisers lay. -/
import Derived.Test.YtefbonjcpdjhcaaGreatDoorAbXN
/- Stage 1: the same lemmas in short forms; what is closed goes by itself. -/
set_option linter.unusedVariables false
namespace Go.Proofs.YtefbonjcpdjhcaaGreatDoor.X
open Go Go.RowKit
abbrev opAt (ops : Array Oper) (i : Nat) : Oper := (ops[i]?).getD default
theorem opAt_some {ops : Array Oper} {i : Nat} (h : Nat.blt i ops.size = true) : ops[i]? = some (opAt ops i) := by
  have hlt : i < ops.size := by unfold Nat.blt at h; exact Nat.le_of_ble_eq_true h
  simp [opAt, hlt]
section
variable {P : Program} {r : Option Nat} {B : Bod} {w0 : World} {ds : List Deferred} {X : Chain → Hp → Prop} {N : Dest} {D : List (Nat × Dest)} {n : Nat} {E : Env} {h : Hp} {ops : Array Oper} {fuel : Nat} {listed : Array Bool} {sk : List Nat} {C : Hold} {i j : Nat}
theorem JO.p (m : Nat) (new : Env) (hh : JO P B w0 ds D n ops N m j (new ++ E) h) (h1 : Nat.ble i m = true := by kernel_rfl) (h2 : Nat.ble m j = true := by kernel_rfl)
    (h3 : shadowOk ((ops.toList.take m).drop i) new E = true := by kernel_rfl)
    (h4 : ∀ w, (runs P ops n ((ops.toList.take m).drop i) E w).map (fun r => (new.map (fun p => look r.1 p.1), r.2)) = some (new.map (fun p => some p.2), w) := by intro _; kernel_rfl) :
    JO P B w0 ds D n ops N i j E h := JO.pures m new h1 h2 h3 h4 hh
theorem JO.s (i : Nat) (hh : OpOk P n w0 ds (QD B (fun _ _ => False) D) (opAt ops i) E h fun v h' => JO P B w0 ds D n ops N (i + 1) j (eput (opAt ops i).dst v E) h')
    (h1 : Nat.blt i ops.size = true := by kernel_rfl) (h2 : Nat.blt i j = true := by kernel_rfl) (h3 : wantedE ops E (opAt ops i) = some true := by kernel_rfl) (h4 : dstOk n (opAt ops i).dst = true := by kernel_rfl) :
    JO P B w0 ds D n ops N i j E h := JO.step (opAt_some h1) h2 h3 h4 hh
theorem JO.y (i : Nat) {v : Value} (hy : Yld P (opAt ops i) E (· = h) v) (hh : JO P B w0 ds D n ops N (i + 1) j (eput (opAt ops i).dst v E) h)
    (h1 : Nat.blt i ops.size = true := by kernel_rfl) (h2 : Nat.blt i j = true := by kernel_rfl) (h3 : wantedE ops E (opAt ops i) = some true := by kernel_rfl) (h4 : dstOk n (opAt ops i).dst = true := by kernel_rfl) :
    JO P B w0 ds D n ops N i j E h := JO.yld (opAt_some h1) h2 h3 h4 hy hh
theorem JO.jq (m : Nat) (E' : Env) (hx : JO P B w0 ds D n ops (InvQ w0 ds n E' h) i m E h) (hy : JO P B w0 ds D n ops N m j E' h) (h1 : Nat.ble i m = true := by kernel_rfl) (h2 : Nat.ble m j = true := by kernel_rfl) :
    JO P B w0 ds D n ops N i j E h := JO.joinQ m E' h1 h2 hx hy
theorem JO.jn {S : Type} (m : Nat) (Ej : S → Env) (k : S → Hp → Prop) (hx : JO P B w0 ds D n ops (InvP w0 ds n Ej k) i m E h) (hy : ∀ s h', k s h' → JO P B w0 ds D n ops N m j (Ej s) h')
    (h1 : Nat.ble i m = true := by kernel_rfl) (h2 : Nat.ble m j = true := by kernel_rfl) : JO P B w0 ds D n ops N i j E h := JO.join m Ej k h1 h2 hx hy
theorem JO.cs (t : Nat) (b : Bool) (ht : b = true → JO P B w0 ds D n ops N i j ((t, .bool true) :: E) h) (hf : b = false → JO P B w0 ds D n ops N i j ((t, .bool false) :: E) h)
    (hl : look E t = some (.bool b) := by kernel_rfl) : JO P B w0 ds D n ops N i j E h := JO.cases b hl ht hf
theorem JD.cs (t : Nat) (b : Bool) (ht : b = true → JD P B w0 ds N D n ops fuel listed sk C ((t, .bool true) :: E) h) (hf : b = false → JD P B w0 ds N D n ops fuel listed sk C ((t, .bool false) :: E) h)
    (hl : look E t = some (.bool b) := by kernel_rfl) : JD P B w0 ds N D n ops fuel listed sk C E h := JD.cases b hl ht hf
theorem JC.cd {c : Operand} {x y : Code} (b : Bool) (ht : b = true → JC P r B w0 ds N D n x E h) (hf : b = false → JC P r B w0 ds N D n y E h)
    (h1 : knownO E c = true := by kernel_rfl) (h2 : ev E c = .bool b := by kernel_rfl) : JC P r B w0 ds N D n (.cond c x y) E h := JC.cond b h1 h2 ht hf
theorem JD.rr (i : Nat) (v : Value) (hh : JD P B w0 ds N D n ops fuel (listed.setIfInBounds i true) sk C (eput (opAt ops i).dst v E) h)
    (h1 : Nat.blt i ops.size = true := by kernel_rfl) (h2 : Region.noSelect ops = true := by kernel_rfl) (h3 : Region.free .any ops listed i = true := by kernel_rfl) (h4 : (Region.ready .any ops listed).contains i = true := by kernel_rfl)
    (h5 : dstOk n (opAt ops i).dst = true := by kernel_rfl) (h6 : wantedE ops E (opAt ops i) = some true := by kernel_rfl) (h7 : known E (opAt ops i) = true := by kernel_rfl)
    (h8 : ∀ w, (execOp (ev E) (opAt ops i)).run P w = .ok (.value v) w := by intro _; kernel_rfl) (he : effB ops sk i = false := by kernel_rfl) (hB : PanFree B (opAt ops i).dst := by first | exact panFree_s | exact panFree_no | exact panFree_f) : JD P B w0 ds N D n ops (fuel + 1) listed sk C E h :=
  JD.take hB (opAt_some h1) h2 h3 h4 he h5 h6 (Yld.runs_ h7 h8) hh
theorem JD.t (i : Nat) {v : Value} (hy : Yld P (opAt ops i) E (HoldT C i) v) (hh : JD P B w0 ds N D n ops fuel (listed.setIfInBounds i true) sk C (eput (opAt ops i).dst v E) h)
    (h1 : Nat.blt i ops.size = true := by kernel_rfl) (h2 : Region.noSelect ops = true := by kernel_rfl) (h3 : Region.free .any ops listed i = true := by kernel_rfl) (h4 : (Region.ready .any ops listed).contains i = true := by kernel_rfl)
    (h5 : dstOk n (opAt ops i).dst = true := by kernel_rfl) (h6 : wantedE ops E (opAt ops i) = some true := by kernel_rfl) (he : effB ops sk i = false := by kernel_rfl) (hB : PanFree B (opAt ops i).dst := by first | exact panFree_s | exact panFree_no | exact panFree_f) : JD P B w0 ds N D n ops (fuel + 1) listed sk C E h :=
  JD.take hB (opAt_some h1) h2 h3 h4 he h5 h6 hy hh
theorem JD.k (i : Nat) (hh : JD P B w0 ds N D n ops fuel (listed.setIfInBounds i true) (i :: sk) C (eput (opAt ops i).dst undef E) h)
    (h1 : Nat.blt i ops.size = true := by kernel_rfl) (h2 : Region.noSelect ops = true := by kernel_rfl) (h3 : Region.free .any ops listed i = true := by kernel_rfl) (h4 : (Region.ready .any ops listed).contains i = true := by kernel_rfl)
    (h5 : dstOk n (opAt ops i).dst = true := by kernel_rfl) (h6 : wantedE ops E (opAt ops i) = some false := by kernel_rfl) (hB : PanFree B (opAt ops i).dst := by first | exact panFree_s | exact panFree_no | exact panFree_f) : JD P B w0 ds N D n ops (fuel + 1) listed sk C E h :=
  JD.skip hB (opAt_some h1) h2 h3 h4 h5 h6 hh
theorem JD.o (i : Nat) (hh : OpOk P n w0 ds (QD B N D) (opAt ops i) E h fun v h' => HoldS ops sk C (listed.setIfInBounds i true) h' ∧ JD P B w0 ds N D n ops fuel (listed.setIfInBounds i true) sk C (eput (opAt ops i).dst v E) h')
    (h1 : Nat.blt i ops.size = true := by kernel_rfl) (h2 : Region.ready .any ops listed = [i] := by kernel_rfl) (h3 : dstOk n (opAt ops i).dst = true := by kernel_rfl) (h4 : wantedE ops E (opAt ops i) = some true := by kernel_rfl) :
    JD P B w0 ds N D n ops (fuel + 1) listed sk C E h := JD.only (opAt_some h1) h2 h3 h4 hh
theorem JD.w (i j : Nat) (hi : OpOk P n w0 ds (QD B N D) (opAt ops i) E h fun v h' => HoldS ops sk C (listed.setIfInBounds i true) h' ∧ JD P B w0 ds N D n ops fuel (listed.setIfInBounds i true) sk C (eput (opAt ops i).dst v E) h')
    (hj : OpOk P n w0 ds (QD B N D) (opAt ops j) E h fun v h' => HoldS ops sk C (listed.setIfInBounds j true) h' ∧ JD P B w0 ds N D n ops fuel (listed.setIfInBounds j true) sk C (eput (opAt ops j).dst v E) h')
    (h1 : Nat.blt i ops.size = true := by kernel_rfl) (h1' : Nat.blt j ops.size = true := by kernel_rfl) (h2 : Region.ready .any ops listed = [i, j] := by kernel_rfl) (h3 : dstOk n (opAt ops i).dst = true := by kernel_rfl)
    (h3' : dstOk n (opAt ops j).dst = true := by kernel_rfl) (h4 : wantedE ops E (opAt ops i) = some true := by kernel_rfl) (h4' : wantedE ops E (opAt ops j) = some true := by kernel_rfl) :
    JD P B w0 ds N D n ops (fuel + 1) listed sk C E h := JD.two (opAt_some h1) (opAt_some h1') h2 h3 h3' h4 h4' hi hj
theorem JD.e (hh : JK w0 ds n N E h) (hr : Region.ready .any ops listed = [] := by kernel_rfl) : JD P B w0 ds N D n ops fuel listed sk C E h := JD.done hr hh
theorem JC.rd {id : Nat} (m : Nat) (hh : JD P B w0 ds N D n ops m (Array.replicate m false) [] [] E h) (hs : ops.size = m := by kernel_rfl) (hm : P.follows .mixedOrders = true := by kernel_rfl) (hd : noDef ops = true := by kernel_rfl) :
    JC P r B w0 ds N D n (.region id ops true) E h := JC.regionD m hs hm hd hh
end
section
variable {P : Program} {r : Option Nat} {B : Bod} {w0 : World} {ds : List Deferred} {X : Chain → Hp → Prop} {N : Dest} {D : List (Nat × Dest)} {n : Nat} {E : Env} {h : Hp} {S : Hp → Prop} {o : Oper} {k : Value → Hp → Prop} {Q : Exit → Act → World → Prop}
theorem OpOk.c {f : FuncId} {args : Array Value} (hc : CallH P f args h k X) (hk : known E o = true := by kernel_rfl) (hr : ∀ w, (execOp (ev E) o).run P w = .ok (.enter f args) w := by intro _; kernel_rfl) (hp : PanOk B w0 ds n E X := by first | exact panOk_s | exact panOk_no) :
    OpOk P n w0 ds (QD B N D) o E h k := OpOk.call hk hr hc hp
theorem OpOk.pn {v : Value} (hx : X [{ v, recovered := false }] h) (hk : known E o = true := by kernel_rfl) (hr : ∀ w, (execOp (ev E) o).run P w = .halt (.panic v) w := by intro _; kernel_rfl) (hp : PanOk B w0 ds n E X := by first | exact panOk_s | exact panOk_no) :
    OpOk P n w0 ds (QD B N D) o E h k := OpOk.panics hk hr hx hp
/-- A new block, its address. -/
theorem OpOk.bp (cs : List Value) (ty : Nat) (hh : ∀ p h1, p = h.size → h1 = h.push (.cells cs.toArray ty) → k (.pointer (some ⟨p, 0, none⟩)) h1) (hk : known E o = true := by kernel_rfl)
    (hr : ∀ w, (execOp (ev E) o).run P w = .ok (.value (.pointer (some ⟨w.heap.size, 0, none⟩))) { w with heap := w.heap.push (.cells cs.toArray ty) } := by intro _; kernel_rfl) : OpOk P n w0 ds Q o E h k :=
  OpOk.box (fun p => .pointer (some ⟨p, 0, none⟩)) hk hr hh
/-- A new block, as a slice of m. -/
theorem OpOk.bs (m : Nat) (cs : List Value) (ty : Nat) (hh : ∀ p h1, p = h.size → h1 = h.push (.cells cs.toArray ty) → k (.slice (some ⟨p, 0, none⟩) m m) h1) (hk : known E o = true := by kernel_rfl)
    (hr : ∀ w, (execOp (ev E) o).run P w = .ok (.value (.slice (some ⟨w.heap.size, 0, none⟩) m m)) { w with heap := w.heap.push (.cells cs.toArray ty) } := by intro _; kernel_rfl) : OpOk P n w0 ds Q o E h k :=
  OpOk.box (fun p => .slice (some ⟨p, 0, none⟩) m m) hk hr hh
theorem OpOk.st {t : TypeId} {x y : Operand} {a : Addr} (vs : List Value) (hs : storable h a vs.length) (hh : ∀ h1, h1 = hsets h a vs → k undef h1) (ho : o.op = .store t x y := by rfl) (hk : known E o = true := by kernel_rfl)
    (hx : ev E x = .pointer (some a) := by kernel_rfl) (hy : (ev E y).cells = vs.toArray := by kernel_rfl) (ht : (P.info? t).map (·.size) = some vs.length := by kernel_rfl) (h1 : vs.all (·.oneCell') = true := by kernel_rfl) : OpOk P n w0 ds Q o E h k :=
  OpOk.put_ vs ho hk hx hy ht h1 hs hh
theorem OpOk.as {x y : Operand} {t tx e : TypeId} {size bytes : Nat} {dst src : Sl} {k : Sl → Hp → Prop} {kk : Value → Hp → Prop} (e' : TypeId) (z : Value)
    (hh : AppW h e size bytes z.cells.toList dst src k) (hf : ∀ s h1, k s h1 → kk (sl s) h1) (ho : o.op = .call { callee := .builtin .append, args := #[x, y], argTypes := #[t, tx] } := by rfl) (hk : known E o = true := by kernel_rfl)
    (ht : P.underlying t = some (.slice e) := by kernel_rfl) (htx : P.underlying tx = some (.slice e') := by kernel_rfl)
    (hi : (P.info? e).map (fun i => (i.size, i.bytes, i.zero)) = some (size, bytes, some z) := by kernel_rfl) (hb : Nat.ble 1 bytes = true := by kernel_rfl) (hx : ev E x = sl dst := by kernel_rfl) (hy : ev E y = sl src := by kernel_rfl) :
    OpOk P n w0 ds Q o E h kk := OpOk.appendSl ho hk ht htx hi hb hx hy hh hf
theorem OpOk.at {x y : Operand} {t tx e : TypeId} {dst : Sl} {src : Str} {k : Sl → Hp → Prop} {kk : Value → Hp → Prop}
    (hh : AppSW h e dst src k) (hf : ∀ s h1, k s h1 → kk (sl s) h1) (ho : o.op = .call { callee := .builtin .append, args := #[x, y], argTypes := #[t, tx] } := by rfl) (hk : known E o = true := by kernel_rfl)
    (ht : P.underlying t = some (.slice e) := by kernel_rfl) (htx : P.underlying tx = some .string := by kernel_rfl)
    (hi : (P.info? e).map (fun i => (i.size, i.bytes, i.zero)) = some (1, 1, some (.int .u8 0)) := by kernel_rfl) (hx : ev E x = sl dst := by kernel_rfl) (hy : ev E y = .string (ba src) := by kernel_rfl) :
    OpOk P n w0 ds Q o E h kk := OpOk.appendStr ho hk ht htx hi hx hy hh hf
theorem Yld.np {x : Operand} {p : Option Addr} {a : Addr} (hp : p = some a) (ho : o.op = .nilCheck x := by rfl) (hk : known E o = true := by kernel_rfl) (hx : ev E x = .pointer p := by kernel_rfl) : Yld P o E S (.pointer (some a)) := Yld.nil ho hk hx hp
theorem Yld.l {t : TypeId} {x : Operand} {a : Addr} {v : Value} (hc : ∀ h, S h → hcells h a [v]) (ho : o.op = .load t x := by rfl) (hk : knownO E x = true := by kernel_rfl) (hx : ev E x = .pointer (some a) := by kernel_rfl)
    (ht : isAggB P t = some false := by kernel_rfl) : Yld P o E S v := Yld.load1 ho hk hx ht fun h hs => hc h hs 0 v rfl
theorem Yld.le {t : TypeId} {x : Operand} {a : Addr} {v : Value} (hc : hcells h a [v]) (ho : o.op = .load t x := by rfl) (hk : knownO E x = true := by kernel_rfl) (hx : ev E x = .pointer (some a) := by kernel_rfl)
    (ht : isAggB P t = some false := by kernel_rfl) : Yld P o E (· = h) v := Yld.load1 ho hk hx ht fun h' hs => by rw [hs]; exact hc 0 v rfl
theorem Yld.lne {t : TypeId} {x : Operand} {a : Addr} {vs : List Value} (hc : hcells h a vs) (ho : o.op = .load t x := by rfl) (hk : knownO E x = true := by kernel_rfl) (hx : ev E x = .pointer (some a) := by kernel_rfl)
    (ht : isAggB P t = some true := by kernel_rfl) (hs : (P.info? t).map (·.size) = some vs.length := by kernel_rfl) : Yld P o E (· = h) (.agg vs.toArray) := Yld.loadN vs ho hk hx ht hs fun h' hs => by rw [hs]; exact hc
theorem Yld.lh {t : TypeId} {x : Operand} {a : Addr} {v : Value} {C : Hold} {i : Nat} (ho : o.op = .load t x := by rfl) (hk : knownO E x = true := by kernel_rfl) (hx : ev E x = .pointer (some a) := by kernel_rfl)
    (ht : isAggB P t = some false := by kernel_rfl) : Yld P o E (HoldT (tagged i a 0 [v] ++ C) i) v := Yld.load1 ho hk hx ht fun h' hs => hs.cells 0 v rfl
theorem Yld.lnh {t : TypeId} {x : Operand} {a : Addr} {vs : List Value} {C : Hold} {i : Nat} (ho : o.op = .load t x := by rfl) (hk : knownO E x = true := by kernel_rfl) (hx : ev E x = .pointer (some a) := by kernel_rfl)
    (ht : isAggB P t = some true := by kernel_rfl) (hs : (P.info? t).map (·.size) = some vs.length := by kernel_rfl) : Yld P o E (HoldT (tagged i a 0 vs ++ C) i) (.agg vs.toArray) := Yld.loadN vs ho hk hx ht hs fun h' hs => hs.cells
theorem Yld.ix {x y : Operand} {xt : TypeId} (kd : IntKind) (s : Str) (i : Int) (hb : 0 ≤ i ∧ i < s.length) (ho : o.op = .index xt x y := by rfl) (hk : known E o = true := by kernel_rfl) (ht : P.underlying xt = some .string := by kernel_rfl)
    (hx : ev E x = .string (ba s) := by kernel_rfl) (hy : ev E y = .int kd i := by kernel_rfl) : Yld P o E S (.int .u8 (bt s i)) := Yld.index ho hk ht hx hy hb
theorem Yld.ss {x : Operand} {l r : Option Operand} {xt : TypeId} (s : Str) (l' r' : Option Int) (hb : 0 ≤ lo l' ∧ lo l' ≤ hi s.length r' ∧ hi s.length r' ≤ s.length) (ho : o.op = .slice xt x l r none := by rfl) (hk : known E o = true := by kernel_rfl)
    (ht : P.underlying xt = some .string := by kernel_rfl) (hx : ev E x = .string (ba s) := by kernel_rfl) (hl : optInt E l = some l' := by kernel_rfl) (hr : optInt E r = some r' := by kernel_rfl) :
    Yld P o E S (.string (ba (sub s (lo l') (hi s.length r')))) := Yld.sliceStr ho hk ht hx hl hr hb
theorem Yld.sc {x : Operand} {l r : Option Operand} {xt : TypeId} (e size : Nat) (s : Sl) (l' r' : Option Int) (hb : 0 ≤ lo l' ∧ lo l' ≤ hi s.len r' ∧ hi s.len r' ≤ s.cap) (ho : o.op = .slice xt x l r none := by rfl) (hk : known E o = true := by kernel_rfl)
    (ht : P.underlying xt = some (.slice e) := by kernel_rfl) (hs : (P.info? e).map (·.size) = some size := by kernel_rfl) (hx : ev E x = sl s := by kernel_rfl) (hl : optInt E l = some l' := by kernel_rfl) (hr : optInt E r = some r' := by kernel_rfl) :
    Yld P o E S (sl (s.cut size (lo l') (hi s.len r'))) := Yld.sliceSl ho hk ht hs hx hl hr hb
theorem Yld.ia {x y : Operand} {xt : TypeId} (e size : Nat) (kd : IntKind) (s : Sl) (b : Addr) (i : Int) (hb : 0 ≤ i ∧ i < s.len) (ha : s.a = some b) (ho : o.op = .indexAddr xt x y := by rfl) (hk : known E o = true := by kernel_rfl)
    (ht : P.underlying xt = some (.slice e) := by kernel_rfl) (hs : (P.info? e).map (·.size) = some size := by kernel_rfl) (hx : ev E x = sl s := by kernel_rfl) (hy : ev E y = .int kd i := by kernel_rfl) :
    Yld P o E S (.pointer (some (b.add (i.toNat * size)))) := Yld.indexAddr ho hk ht hs hx hy hb ha
theorem Yld.cc {x y : Operand} {xt yt : TypeId} (s t : Str) (hb : s.length + t.length ≤ maxLen) (ho : o.op = .binOp .add xt x y yt := by rfl) (hk : known E o = true := by kernel_rfl) (hx : ev E x = .string (ba s) := by kernel_rfl)
    (hy : ev E y = .string (ba t) := by kernel_rfl) : Yld P o E S (.string (ba (s ++ t))) := Yld.concat ho hk hx hy hb
theorem Yld.cp {x y : Operand} {xt yt : TypeId} (op : BinOp) (s t : Str) (ho : o.op = .binOp op xt x y yt := by rfl) (hk : known E o = true := by kernel_rfl) (hop : isCmp op = true := by kernel_rfl) (hx : ev E x = .string (ba s) := by kernel_rfl)
    (hy : ev E y = .string (ba t) := by kernel_rfl) : Yld P o E S (.bool (cmpS op s t)) := Yld.cmpStr ho hk hop hx hy
theorem Yld.q {x y : Operand} {xt yt : TypeId} (kd : IntKind) (i j : Int) (hj : j ≠ 0) (ho : o.op = .binOp .quo xt x y yt := by rfl) (hk : known E o = true := by kernel_rfl) (hx : ev E x = .int kd i := by kernel_rfl) (hy : ev E y = .int kd j := by kernel_rfl) :
    Yld P o E S (.int kd (kd.wrap (i.tdiv j))) := Yld.quo ho hk hx hy hj
theorem Yld.eF {x : Operand} {xt yt : TypeId} (v : Ifc) (ho : o.op = .binOp .eql xt x (.const .nilIface) yt := by rfl) (hk : known E o = true := by kernel_rfl) (ht : tkind P xt = 1 := by kernel_rfl) (hx : ev E x = ifc v := by kernel_rfl) : Yld P o E S (.bool v.isNone) := Yld.eqlNil ho hk ht hx
theorem Yld.nF {x : Operand} {xt yt : TypeId} (v : Ifc) (ho : o.op = .binOp .neq xt x (.const .nilIface) yt := by rfl) (hk : known E o = true := by kernel_rfl) (ht : tkind P xt = 1 := by kernel_rfl) (hx : ev E x = ifc v := by kernel_rfl) : Yld P o E S (.bool !v.isNone) := Yld.neqNil ho hk ht hx
theorem Sub.kk {E E' : Env} (h : E'.map (fun p => look E p.1) = E'.map (fun p => some p.2) := by kernel_rfl) : Sub E E' := Sub.of h
theorem KeepB.c {B : List (Nat × Obj)} {h : Hp} (hB : KeepB B h) (i : Nat) {p ty : Nat} {cs : Array Value} {fr : Nat × Nat} (off : Nat) (vs : List Value) (hi : B[i]? = some (p, .cells cs ty fr) := by rfl)
    (hv : (cs.toList.drop off).take vs.length = vs := by kernel_rfl) : hcells h ((⟨p, 0, none⟩ : Addr).add off) vs := hB.cells i hi off hv
theorem KeepB.st {B : List (Nat × Obj)} {h : Hp} (hB : KeepB B h) (i : Nat) (off m : Nat) {p ty : Nat} {cs : Array Value} (hi : B[i]? = some (p, .cells cs ty (0, 0)) := by rfl) (hl : Nat.ble (off + m) cs.size = true := by rfl) :
    Go.Proofs.YtefbonjcpdjhcaaGreatDoor.X.storable h ((⟨p, 0, none⟩ : Addr).add off) m := hB.storable i hi hl
theorem KeepB.l {B : List (Nat × Obj)} {h : Hp} (hB : KeepB B h) (i : Nat) {q : Nat × Obj} (hi : B[i]? = some q := by rfl) : q.1 < h.size := hB.lt (List.mem_of_getElem? hi)
theorem RVal.s {t : Nat} {v : Value} (hl : look E t = some v := by kernel_rfl) : RVal P E h (.tmp t) v := hl
theorem RVal.bN {t ty : Nat} {B : List (Nat × Obj)} (p te : Nat) (hB : KeepB B h) (i : Nat) {cs : Array Value} (hl : look E t = some (.pointer (some ⟨p, 0, none⟩)) := by kernel_rfl) (hi : B[i]? = some (p, .cells cs te (0, 0)) := by kernel_rfl)
    (ht : isAggB P ty = some true := by kernel_rfl) (hs : (P.info? ty).map (·.size) = some cs.toList.length := by kernel_rfl) : RVal P E h (.cell t ty) (.agg cs) := RVal.boxN hB i hl hi ht hs
theorem RVal.b1 {t ty : Nat} {B : List (Nat × Obj)} (p te : Nat) (hB : KeepB B h) (i : Nat) {v : Value} (hl : look E t = some (.pointer (some ⟨p, 0, none⟩)) := by kernel_rfl) (hi : B[i]? = some (p, .cells #[v] te (0, 0)) := by kernel_rfl)
    (ht : isAggB P ty = some false := by kernel_rfl) : RVal P E h (.cell t ty) v := RVal.box1 hB i hl hi ht
end
end Go.Proofs.YtefbonjcpdjhcaaGreatDoor.X
