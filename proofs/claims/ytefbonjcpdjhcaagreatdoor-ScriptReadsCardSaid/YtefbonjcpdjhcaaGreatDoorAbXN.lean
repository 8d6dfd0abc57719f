/- A part of the proof: The card of ScriptReads: for every text that the form allows, the law returns true and leaves its argument as it was; the listed package-level variables of Go's library hold what their initialisers lay. -/
import Derived.Test.YtefbonjcpdjhcaaGreatDoorAbXD
/- Stage 1: the words of the normal forms; a call's own boxes. -/
set_option linter.unusedVariables false
namespace Go.Proofs.YtefbonjcpdjhcaaGreatDoor.X
open Go Go.RowKit

/-! ### The words of the normal forms -/
def LoadW {T : Type} (h : Hp) (a : Addr) (cells : T → List Value) (k : T → Prop) : Prop := ∃ x, hcells h a (cells x) ∧ k x
/-- The same where b holds. -/
def LoadG {T : Type} (b : Prop) (h : Hp) (a : Addr) (cells : T → List Value) (k : T → Prop) : Prop := ∃ x, (b → hcells h a (cells x)) ∧ k x
def NilW (p : Option Addr) (k : Addr → Prop) : Prop := ∃ a, p = some a ∧ k a
def IdxW (s : Sl) (i : Int) (k : Addr → Prop) : Prop := 0 ≤ i ∧ i < s.len ∧ ∃ a, s.a = some a ∧ k a
def AllocW (h : Hp) (ty : Nat) (cells : List Value) (k : Nat → Hp → Prop) : Prop := ∀ p h1, p = h.size → h1 = h.push (.cells cells.toArray ty) → k p h1
def StoreW (h : Hp) (a : Addr) (cells : List Value) (k : Hp → Prop) : Prop := storable h a cells.length ∧ ∀ h1, h1 = hsets h a cells → k h1
def LoopW {S : Type} (body : S → Hp → (S → Hp → Prop) → Prop) (s0 : S) (h : Hp) : Prop :=
  ∃ (I : S → Hp → Prop) (μ : S → Hp → Nat), I s0 h ∧ ∀ s h', I s h' → body s h' fun s' h'' => I s' h'' ∧ μ s' h'' < μ s h'
def JoinW {S : Type} (body : (S → Hp → Prop) → Prop) (rest : S → Hp → Prop) : Prop := ∃ k, body k ∧ ∀ s h, k s h → rest s h
theorem JoinW.inl {S : Type} {body : (S → Hp → Prop) → Prop} {rest : S → Hp → Prop} (h : body rest) : JoinW body rest := ⟨rest, h, fun _ _ h => h⟩

/-! ### A call's own boxes -/
/-- From h to h1 blocks came, and those of O may have changed. -/
structure Ev (O : List Nat) (h h1 : Hp) : Prop where
  size : h.size ≤ h1.size
  same : ∀ b, b < h.size → b ∉ O → h1[b]? = h[b]?
def New (p : Nat) (h h1 : Hp) : Prop := h.size ≤ p ∧ p < h1.size
def SameOn (O : List Nat) (h h1 : Hp) : Prop := ∀ p ∈ O, h1[p]? = h[p]?
def LtAll (O : List Nat) (h : Hp) : Prop := ∀ p ∈ O, p < h.size
theorem Ev.refl (O : List Nat) (h : Hp) : Ev O h h := ⟨Nat.le_refl _, fun _ _ _ => rfl⟩
theorem push_old (h : Hp) (ob : Obj) {b : Nat} (hb : b < h.size) : (h.push ob)[b]? = h[b]? := by
  rw [Array.getElem?_push, if_neg (by omega)]
theorem push_new (h : Hp) (ob : Obj) : (h.push ob)[h.size]? = some ob := by simp
theorem Ev.push {O : List Nat} {h g g1 : Hp} {ob : Obj} {p : Nat} (hE : Ev O h g) (hp : p = g.size) (e : g1 = g.push ob) : Ev (p :: O) h g1 := by
  subst e
  refine ⟨by have := hE.size; simp; omega, fun b hb ho => ?_⟩
  rw [push_old g ob (Nat.lt_of_lt_of_le hb hE.size)]
  exact hE.same b hb fun hm => ho (List.mem_cons_of_mem _ hm)
theorem hset_other (h : Hp) (a : Addr) (v : Value) {b : Nat} (hb : b ≠ a.block) : (hset h a v)[b]? = h[b]? := by
  unfold hset
  rw [Array.getElem?_modify, if_neg (by omega)]
theorem hset_size (h : Hp) (a : Addr) (v : Value) : (hset h a v).size = h.size := by simp [hset]
theorem add_block (a : Addr) (i : Nat) : (a.add i).block = a.block := by unfold Addr.add; split <;> rfl
theorem hsetsFrom_other {a : Addr} {b : Nat} (hb : b ≠ a.block) : ∀ (vs : List Value) (i : Nat) (h : Hp), (hsetsFrom h a i vs)[b]? = h[b]?
  | [], _, _ => rfl
  | v :: r, i, h => by
    rw [hsetsFrom, hsetsFrom_other hb r]
    exact hset_other h _ v (by rw [add_block]; exact hb)
theorem hsetsFrom_size {a : Addr} : ∀ (vs : List Value) (i : Nat) (h : Hp), (hsetsFrom h a i vs).size = h.size
  | [], _, _ => rfl
  | v :: r, i, h => by rw [hsetsFrom, hsetsFrom_size r, hset_size]
theorem Ev.set {O : List Nat} {h g g1 : Hp} {a : Addr} {vs : List Value} (hE : Ev O h g) (e : g1 = hsets g a vs) (hm : a.block ∈ O) : Ev O h g1 := by
  subst e
  refine ⟨by rw [hsets, hsetsFrom_size]; exact hE.size, fun b hb ho => ?_⟩
  rw [hsets, hsetsFrom_other (fun e => ho (by rw [e]; exact hm))]
  exact hE.same b hb ho

/-- The boxes hold this; they came one behind the other. -/
def Desc : List (Nat × Obj) → Prop
  | [] => True
  | p :: r => (∀ q ∈ r, q.1 < p.1) ∧ Desc r
structure KeepB (B : List (Nat × Obj)) (h : Hp) : Prop where
  desc : Desc B
  at_ : ∀ q ∈ B, h[q.1]? = some q.2
theorem KeepB.nil (h : Hp) : KeepB [] h := ⟨trivial, fun q hq => by cases hq⟩
theorem KeepB.lt {B : List (Nat × Obj)} {h : Hp} (hB : KeepB B h) {q : Nat × Obj} (hq : q ∈ B) : q.1 < h.size := by
  have := hB.at_ q hq
  rcases Nat.lt_or_ge q.1 h.size with hl | hl
  · exact hl
  · rw [Array.getElem?_eq_none hl] at this; cases this
theorem KeepB.ltAll {B : List (Nat × Obj)} {h : Hp} (hB : KeepB B h) : LtAll (B.map (·.1)) h := fun p hp => by
  obtain ⟨q, hq, rfl⟩ := List.mem_map.1 hp
  exact hB.lt hq
theorem KeepB.push {B : List (Nat × Obj)} {h h1 : Hp} {ob : Obj} {p : Nat} (hB : KeepB B h) (hp : p = h.size) (e : h1 = h.push ob) : KeepB ((p, ob) :: B) h1 := by
  subst e hp
  refine ⟨⟨fun q hq => hB.lt hq, hB.desc⟩, fun q hq => ?_⟩
  rcases List.mem_cons.1 hq with rfl | hq
  · exact push_new h ob
  · rw [push_old h ob (hB.lt hq)]; exact hB.at_ q hq
theorem KeepB.same {B : List (Nat × Obj)} {h h1 : Hp} (hB : KeepB B h) (hs : SameOn (B.map (·.1)) h h1) : KeepB B h1 :=
  ⟨hB.desc, fun q hq => by rw [hs q.1 (List.mem_map.2 ⟨q, hq, rfl⟩)]; exact hB.at_ q hq⟩
theorem KeepB.tail {q : Nat × Obj} {B : List (Nat × Obj)} {h : Hp} (hB : KeepB (q :: B) h) : KeepB B h := ⟨hB.desc.2, fun q hq => hB.at_ q (List.mem_cons_of_mem _ hq)⟩
theorem add_zero_lit (p i : Nat) : (⟨p, 0, none⟩ : Addr).add i = ⟨p, i, none⟩ := by unfold Addr.add; split <;> simp_all
theorem add_add (a : Addr) (i j : Nat) : (a.add i).add j = a.add (i + j) := by
  unfold Addr.add
  by_cases hi : i = 0 <;> by_cases hj : j = 0 <;> simp [hi, hj, Nat.add_assoc]
theorem hcell_of_block {h : Hp} {p i : Nat} {cs : Array Value} {ty : Nat} {fr : Nat × Nat} (hb : h[p]? = some (.cells cs ty fr)) : hcell h ⟨p, i, none⟩ = cs[i]? := by
  simp [hcell, hb]
theorem hfrozen_of_block {h : Hp} {p i : Nat} {cs : Array Value} {ty : Nat} (hb : h[p]? = some (.cells cs ty (0, 0))) : hfrozen h ⟨p, i, none⟩ = false := by
  simp [hfrozen, hb]
/-- What is read out of a box. -/
theorem KeepB.cells {B : List (Nat × Obj)} {h : Hp} (hB : KeepB B h) (i : Nat) {p ty : Nat} {cs : Array Value} {fr : Nat × Nat} (hi : B[i]? = some (p, .cells cs ty fr)) (off : Nat) {vs : List Value}
    (hv : (cs.toList.drop off).take vs.length = vs) : hcells h ((⟨p, 0, none⟩ : Addr).add off) vs := by
  intro j v hj
  have hm := hB.at_ _ (List.mem_of_getElem? hi)
  rw [add_add, add_zero_lit, hcell_of_block hm]
  have hl : j < vs.length := (List.getElem?_eq_some_iff.1 hj).1
  rw [← hv, List.getElem?_take, if_pos (by simpa using hl), List.getElem?_drop] at hj
  simpa using hj
theorem hset_block_of {h : Hp} {p i : Nat} {cs : Array Value} {ty : Nat} {fr : Nat × Nat} (v : Value) (hb : h[p]? = some (.cells cs ty fr)) : (hset h ⟨p, i, none⟩ v)[p]? = some (.cells (cs.setIfInBounds i v) ty fr) := by
  unfold hset
  rw [Array.getElem?_modify, if_pos rfl, hb]
  rfl
def splice (cs : List Value) (off : Nat) (vs : List Value) : List Value := cs.take off ++ vs ++ cs.drop (off + vs.length)
theorem hsets_block {p ty : Nat} {fr : Nat × Nat} : ∀ (vs : List Value) (i : Nat) (cs : Array Value) (h : Hp), h[p]? = some (.cells cs ty fr) → i + vs.length ≤ cs.size → (hsetsFrom h ⟨p, 0, none⟩ i vs)[p]? = some (.cells (splice cs.toList i vs).toArray ty fr)
  | [], i, cs, h, hb, hl => by simp [hsetsFrom, splice, hb]
  | v :: r, i, cs, h, hb, hl => by
    have hlt : i < cs.size := by simp at hl; omega
    rw [hsetsFrom, add_zero_lit, hsets_block r (i + 1) (cs.setIfInBounds i v) _ (hset_block_of v hb) (by simp at hl ⊢; omega)]
    congr 3
    simp only [splice, Array.toList_setIfInBounds, List.length_cons]
    apply List.ext_getElem?
    intro k
    simp only [List.getElem?_append, List.length_append, List.length_take, List.length_set, Array.length_toList, List.length_cons, List.getElem?_take, List.getElem?_drop]
    by_cases h1 : k < i
    · simp [h1, show k < i + 1 by omega, show min i cs.size = i by omega, show min (i + 1) cs.size = i + 1 by omega, show i ≠ k by omega, show k < i + (r.length + 1) by omega, show k < i + 1 + r.length by omega]
    · by_cases h2 : k = i
      · subst h2
        simp [show min k cs.size = k by omega, show min (k + 1) cs.size = k + 1 by omega, List.getElem?_set, hlt]
        intro hh; omega
      · simp only [show min i cs.size = i by omega, show min (i + 1) cs.size = i + 1 by omega, h1, show ¬ k < i + 1 by omega, if_false]
        by_cases h3 : k < i + 1 + r.length
        · rw [if_pos (show k < i + 1 + r.length from h3), if_pos (show k < i + (r.length + 1) by omega), show k - i = (k - (i + 1)) + 1 by omega]
          simp
        · rw [if_neg (show ¬ k < i + 1 + r.length from h3), if_neg (show ¬ k < i + (r.length + 1) by omega), List.getElem?_set, if_neg (by omega)]
          congr 1
          omega
theorem hsets_add (h : Hp) (p off : Nat) (vs : List Value) : hsets h ((⟨p, 0, none⟩ : Addr).add off) vs = hsetsFrom h ⟨p, 0, none⟩ off vs := by
  have : ∀ (vs : List Value) (i : Nat) (h : Hp), hsetsFrom h ((⟨p, 0, none⟩ : Addr).add off) i vs = hsetsFrom h ⟨p, 0, none⟩ (off + i) vs := by
    intro vs
    induction vs with
    | nil => intro i h; rfl
    | cons v r ih => intro i h; rw [hsetsFrom, hsetsFrom, add_add, ih, Nat.add_assoc]
  exact this vs 0 h
theorem Desc.ne {B : List (Nat × Obj)} : Desc B → ∀ (i j : Nat) (q r : Nat × Obj), B[i]? = some q → B[j]? = some r → i ≠ j → q.1 ≠ r.1 := by
  induction B with
  | nil => intro _ i j q r hi; simp at hi
  | cons p B ih =>
    intro hd i j q r hi hj hne
    cases i with
    | zero =>
      cases j with
      | zero => exact absurd rfl hne
      | succ j =>
        simp at hi hj
        subst hi
        have := hd.1 r (List.mem_of_getElem? hj)
        omega
    | succ i =>
      cases j with
      | zero =>
        simp at hi hj
        subst hj
        have := hd.1 q (List.mem_of_getElem? hi)
        omega
      | succ j => exact ih hd.2 i j q r (by simpa using hi) (by simpa using hj) (by omega)
theorem Desc.set {B : List (Nat × Obj)} : Desc B → ∀ (i : Nat) (p : Nat) (ob ob' : Obj), B[i]? = some (p, ob) → Desc (B.set i (p, ob')) := by
  induction B with
  | nil => intro _ i p ob ob' hi; simp at hi
  | cons q B ih =>
    intro hd i p ob ob' hi
    cases i with
    | zero => simp at hi; subst hi; exact hd
    | succ i =>
      simp only [List.set_cons_succ]
      refine ⟨fun r hr => ?_, ih hd.2 i p ob ob' (by simpa using hi)⟩
      rcases List.mem_or_eq_of_mem_set hr with hr | rfl
      · exact hd.1 r hr
      · exact hd.1 (p, ob) (List.mem_of_getElem? (by simpa using hi))
/-- A store into a box. -/
theorem KeepB.set {B : List (Nat × Obj)} {h h1 : Hp} (hB : KeepB B h) (i : Nat) {p ty off : Nat} {cs : Array Value} {fr : Nat × Nat} {vs : List Value} (hi : B[i]? = some (p, .cells cs ty fr))
    (hl : Nat.ble (off + vs.length) cs.size = true) (e : h1 = hsets h ((⟨p, 0, none⟩ : Addr).add off) vs) : KeepB (B.set i (p, .cells (splice cs.toList off vs).toArray ty fr)) h1 := by
  subst e
  have hl := Nat.le_of_ble_eq_true hl
  have hm := hB.at_ _ (List.mem_of_getElem? hi)
  refine ⟨hB.desc.set i p _ _ hi, fun q hq => ?_⟩
  rw [hsets_add]
  obtain ⟨j, hj⟩ := List.mem_iff_getElem?.1 hq
  rw [List.getElem?_set] at hj
  split at hj
  · split at hj
    · injection hj with hj
      subst hj
      exact hsets_block vs off cs h hm hl
    · cases hj
  · rename_i hne
    have hq' := hB.at_ q (List.mem_of_getElem? hj)
    rw [hsetsFrom_other (hB.desc.ne j i q _ hj hi (fun e => hne e.symm))]
    exact hq'
theorem KeepB.storable {B : List (Nat × Obj)} {h : Hp} (hB : KeepB B h) (i : Nat) {p ty off m : Nat} {cs : Array Value} (hi : B[i]? = some (p, .cells cs ty (0, 0))) (hl : Nat.ble (off + m) cs.size = true) :
    storable h ((⟨p, 0, none⟩ : Addr).add off) m := by
  have hl := Nat.le_of_ble_eq_true hl
  have hm := hB.at_ _ (List.mem_of_getElem? hi)
  intro j hj
  rw [add_add, add_zero_lit]
  refine ⟨?_, hfrozen_of_block hm⟩
  rw [hcell_of_block hm, Array.getElem?_eq_getElem (by omega)]
  rfl
theorem KeepB.grow {B : List (Nat × Obj)} {h h1 : Hp} {ob : Obj} (hB : KeepB B h) (e : h1 = h.push ob) : KeepB B h1 := by
  subst e
  exact ⟨hB.desc, fun q hq => by rw [push_old h ob (hB.lt hq)]; exact hB.at_ q hq⟩
theorem Desc.drop {B : List (Nat × Obj)} (hd : Desc B) : ∀ k, Desc (B.drop k) := by
  induction B with
  | nil => intro k; simpa using hd
  | cons p B ih => intro k; cases k with
    | zero => exact hd
    | succ k => exact ih hd.2 k
theorem KeepB.drop {B : List (Nat × Obj)} {h : Hp} (hB : KeepB B h) (k : Nat) : KeepB (B.drop k) h := ⟨hB.desc.drop k, fun q hq => hB.at_ q (List.mem_of_mem_drop hq)⟩
theorem Ev.drop {O : List Nat} {h h1 : Hp} {p : Nat} (hE : Ev (p :: O) h h1) (hN : h.size ≤ p) : Ev O h h1 :=
  ⟨hE.size, fun b hb ho => hE.same b hb fun hm => by rcases List.mem_cons.1 hm with rfl | hm; exact absurd hb (by omega); exact ho hm⟩

/-! ### The cells of typed values -/
def cI (k : IntKind) (x : Int) : List Value := [.int k x]
def cB (x : Bool) : List Value := [.bool x]
def cS (x : Str) : List Value := [.string (ba x)]
def cL (x : Sl) : List Value := [sl x]
section
variable {P : Program} {E : Env} {h : Hp}
theorem RVal.slot {t : Nat} {v : Value} (hl : look E t = some v) : RVal P E h (.tmp t) v := hl
theorem RVal.boxN {t ty p : Nat} {B : List (Nat × Obj)} (hB : KeepB B h) (i : Nat) {te : Nat} {cs : Array Value} (hl : look E t = some (.pointer (some ⟨p, 0, none⟩))) (hi : B[i]? = some (p, .cells cs te (0, 0)))
    (ht : isAggB P ty = some true) (hs : (P.info? ty).map (·.size) = some cs.toList.length) : RVal P E h (.cell t ty) (.agg cs) := by
  refine ⟨_, hl, fun w hw => ?_⟩
  have := hB.cells i hi 0 (vs := cs.toList) (by rw [List.drop_zero, List.take_of_length_le (Nat.le_refl _)])
  exact run_loadVar_agg (vs := cs.toList) ht hs (by rw [hw]; exact this)
theorem RVal.box1 {t ty p : Nat} {B : List (Nat × Obj)} (hB : KeepB B h) (i : Nat) {te : Nat} {v : Value} (hl : look E t = some (.pointer (some ⟨p, 0, none⟩))) (hi : B[i]? = some (p, .cells #[v] te (0, 0)))
    (ht : isAggB P ty = some false) : RVal P E h (.cell t ty) v := by
  refine ⟨_, hl, fun w hw => ?_⟩
  have := hB.cells i hi 0 (vs := [v]) (by simp) 0 v (by simp)
  exact run_loadVar_one ht (by rw [hw]; exact this)
end

/-! ### append, in the normal forms -/
def AppW (h : Hp) (ty size bytes : Nat) (z : List Value) (dst src : Sl) (k : Sl → Hp → Prop) : Prop :=
  ∃ old new : List Value, new.length = src.len * size ∧ SlCells h src.a new ∧ (∀ v ∈ new, v.oneCell' = true) ∧ AppendW h ty size bytes z dst src.len old new k
/-- A string's bytes onto a slice of bytes. -/
def AppSW (h : Hp) (ty : Nat) (dst : Sl) (src : Str) (k : Sl → Hp → Prop) : Prop :=
  ∃ old : List Value, AppendW h ty 1 1 [.int .u8 0] dst src.length old (src.map fun b => .int .u8 b.toNat) k
theorem AppendW.mono {h : Hp} {ty size bytes : Nat} {z : List Value} {dst : Sl} {m : Nat} {old new : List Value} {k k' : Sl → Hp → Prop} (hh : AppendW h ty size bytes z dst m old new k) (hk : ∀ s h1, k s h1 → k' s h1) :
    AppendW h ty size bytes z dst m old new k' := by
  obtain ⟨h1, h2, h3, h4, h5, h6, h7, h8⟩ := hh
  exact ⟨h1, h2, h3, h4, h5, fun e => hk _ _ (h6 e), fun a b => (h7 a b).imp fun g hg => hg.imp fun off ho => ⟨ho.1, ho.2.1, hk _ _ ho.2.2⟩, fun a c b d => hk _ _ (h8 a c b d)⟩
section
variable {P : Program} {w0 : World} {ds : List Deferred} {n : Nat} {E : Env} {h : Hp} {o : Oper}
theorem OpOk.appendSl {x y : Operand} {t tx e e' : TypeId} {size bytes : Nat} {z : Value} {dst src : Sl} {k : Sl → Hp → Prop} {kk : Value → Hp → Prop} {Q : Exit → Act → World → Prop}
    (ho : o.op = .call { callee := .builtin .append, args := #[x, y], argTypes := #[t, tx] }) (hk : known E o = true) (ht : P.underlying t = some (.slice e)) (htx : P.underlying tx = some (.slice e'))
    (hi : (P.info? e).map (fun i => (i.size, i.bytes, i.zero)) = some (size, bytes, some z)) (hb : Nat.ble 1 bytes = true) (hx : ev E x = sl dst) (hy : ev E y = sl src)
    (hh : AppW h e size bytes z.cells.toList dst src k) (hf : ∀ s h1, k s h1 → kk (sl s) h1) : OpOk P n w0 ds Q o E h kk := by
  obtain ⟨old, new, hl, hc, h1, hA⟩ := hh
  cases hi' : P.info? e with
  | none => rw [hi'] at hi; cases hi
  | some i =>
    rw [hi'] at hi
    simp only [Option.map_some, Option.some.injEq, Prod.mk.injEq] at hi
    obtain ⟨rfl, rfl, hz⟩ := hi
    have := OpOk.append_ (n := n) (w0 := w0) (ds := ds) (Q := Q) ho hk ht hi' hz hx hy (m := src.len) (old := old) (new := new) (k := k) (fun w hw => ⟨.inl ⟨e', htx⟩, fun _ => rfl,
      firstCells_sl _ w hl (by rw [hw]; exact hc), firstCells_sl _ w.drew hl (by rw [show w.drew.heap = h from hw]; exact hc), hl, h1⟩) (Nat.le_of_ble_eq_true hb) hA
    intro a w ha hw
    exact opw_mono (fun a' w' ⟨v, h', e1, e2, s, e3, e4⟩ => ⟨v, h', e1, e2, e3 ▸ hf s h' e4⟩) (fun _ _ _ _ q => q) (this a w ha hw)
theorem OpOk.appendStr {x y : Operand} {t tx e : TypeId} {dst : Sl} {src : Str} {k : Sl → Hp → Prop} {kk : Value → Hp → Prop} {Q : Exit → Act → World → Prop}
    (ho : o.op = .call { callee := .builtin .append, args := #[x, y], argTypes := #[t, tx] }) (hk : known E o = true) (ht : P.underlying t = some (.slice e)) (htx : P.underlying tx = some .string)
    (hi : (P.info? e).map (fun i => (i.size, i.bytes, i.zero)) = some (1, 1, some (.int .u8 0))) (hx : ev E x = sl dst) (hy : ev E y = .string (ba src))
    (hh : AppSW h e dst src k) (hf : ∀ s h1, k s h1 → kk (sl s) h1) : OpOk P n w0 ds Q o E h kk := by
  obtain ⟨old, hA⟩ := hh
  cases hi' : P.info? e with
  | none => rw [hi'] at hi; cases hi
  | some i =>
    rw [hi'] at hi
    simp only [Option.map_some, Option.some.injEq, Prod.mk.injEq] at hi
    obtain ⟨h1, h2, hz⟩ := hi
    have hS : ∀ w : World, w.heap = h → Src P i.size tx (.string (ba src)) src.length (src.map fun b => .int .u8 b.toNat) w := fun w _ => by
      rw [h1]; exact Src.ofString w htx (ba src)
    have := OpOk.append_ (n := n) (w0 := w0) (ds := ds) (Q := Q) ho hk ht hi' hz hx hy (m := src.length) (old := old) (k := k) hS (by omega) (by rw [h1, h2]; exact hA)
    intro a w ha hw
    exact opw_mono (fun a' w' ⟨v, h', e1, e2, s, e3, e4⟩ => ⟨v, h', e1, e2, e3 ▸ hf s h' e4⟩) (fun _ _ _ _ q => q) (this a w ha hw)
end
theorem hcells_push {h h1 : Hp} {a : Addr} {vs : List Value} {ob : Obj} (hc : hcells h a vs) (e : h1 = h.push ob) : hcells h1 a vs := by
  subst e
  intro j v hj
  have := hc j v hj
  unfold hcell at this ⊢
  have hlt : (a.add j).block < h.size := by
    rcases Nat.lt_or_ge (a.add j).block h.size with hl | hl
    · exact hl
    · rw [Array.getElem?_eq_none hl] at this; cases this
  rw [push_old h ob hlt]
  exact this
end Go.Proofs.YtefbonjcpdjhcaaGreatDoor.X
