/- A part of the proof: The card of ScriptReads: for every text that the form allows, the law returns true and leaves its argument as it was; the listed package-level variables of Go's library hold what their initialisers lay. -/
import Derived.Test.YtefbonjcpdjhcaaGreatDoorAbG2
import Derived.Lib.Builder
import Derived.Laws.Externs
/- Stage 2: frames, blocks, strings, numbers. No statement of the program here. -/
set_option linter.unusedVariables false
namespace Go.Proofs.YtefbonjcpdjhcaaGreatDoor.X
open Go Go.RowKit

/-! ### Frames -/
/-- The old blocks, but for those of M, are as they were. -/
def Fr (M : List Nat) (h h' : Hp) : Prop := h.size ≤ h'.size ∧ ∀ b, b < h.size → b ∉ M → h'[b]? = h[b]?
theorem Fr.refl (M : List Nat) (h : Hp) : Fr M h h := ⟨Nat.le_refl _, fun _ _ _ => rfl⟩
theorem Fr.trans {M M2 : List Nat} {h h1 h2 : Hp} (a : Fr M h h1) (b : Fr M2 h1 h2) (hs : ∀ x ∈ M2, x ∈ M ∨ h.size ≤ x) : Fr M h h2 :=
  ⟨Nat.le_trans a.1 b.1, fun x hx hm => by
    rw [b.2 x (Nat.lt_of_lt_of_le hx a.1) fun hm2 => by rcases hs x hm2 with h' | h'; exact hm h'; omega]
    exact a.2 x hx hm⟩
theorem Fr.step {M : List Nat} {h h1 h2 : Hp} (a : Fr M h h1) (b : Fr [] h1 h2) : Fr M h h2 := a.trans b fun _ hx => by cases hx
theorem Fr.same {M : List Nat} {h h1 h2 : Hp} (a : Fr M h h1) (b : Fr M h1 h2) : Fr M h h2 := a.trans b fun _ hx => .inl hx
theorem Fr.sub {M M' : List Nat} {h h' : Hp} (a : Fr M h h') (hs : ∀ x ∈ M, x ∈ M' ∨ h.size ≤ x) : Fr M' h h' :=
  ⟨a.1, fun x hx hm => a.2 x hx fun hm2 => by rcases hs x hm2 with h' | h'; exact hm h'; omega⟩
theorem Fr.nil {M : List Nat} {h h' : Hp} (a : Fr [] h h') : Fr M h h' := a.sub fun _ hx => by cases hx
theorem Fr.at_ {M : List Nat} {h h' : Hp} {b : Nat} {ob : Obj} (a : Fr M h h') (hb : h[b]? = some ob) (hm : b ∉ M) : h'[b]? = some ob := by
  have hlt : b < h.size := (Array.getElem?_eq_some_iff.1 hb).1
  rw [a.2 b hlt hm, hb]
theorem lt_of_at {h : Hp} {b : Nat} {ob : Obj} (hb : h[b]? = some ob) : b < h.size := (Array.getElem?_eq_some_iff.1 hb).1
theorem Ev.fr {O : List Nat} {h h1 : Hp} (e : Ev O h h1) : Fr O h h1 := ⟨e.size, e.same⟩
theorem Fr.push {h h1 : Hp} {ob : Obj} (e : h1 = h.push ob) : Fr [] h h1 := by
  subst e
  exact ⟨by simp, fun b hb _ => push_old h ob hb⟩
theorem push_at {h h1 : Hp} {ob : Obj} {p : Nat} (hp : p = h.size) (e : h1 = h.push ob) : h1[p]? = some ob := by
  subst e hp
  exact push_new h ob
theorem size_push {h h1 : Hp} {ob : Obj} (e : h1 = h.push ob) : h1.size = h.size + 1 := by subst e; simp
theorem Fr.sets {h h1 : Hp} {a : Addr} {vs : List Value} (e : h1 = hsets h a vs) : Fr [a.block] h h1 := by
  subst e
  exact ⟨by rw [hsets, hsetsFrom_size]; exact Nat.le_refl _, fun b _ hm => hsetsFrom_other (by simpa using hm) vs 0 h⟩
/-- From a frame: the own boxes are as they were. -/
theorem Fr.sameOn {M O : List Nat} {h h' : Hp} (a : Fr M h h') (hl : LtAll O h) (hm : ∀ p ∈ O, p ∉ M) : SameOn O h h' := fun p hp => a.2 p (hl p hp) (hm p hp)

/-! ### Blocks -/
def Blk (h : Hp) (p : Nat) (cs : List Value) (ty : TypeId) : Prop := h[p]? = some (.cells cs.toArray ty (0, 0))
theorem Blk.keep {h : Hp} {p : Nat} {cs : List Value} {ty : TypeId} (hb : Blk h p cs ty) : KeepB [(p, .cells cs.toArray ty (0, 0))] h :=
  ⟨⟨(fun q hq => nomatch hq), trivial⟩, fun q hq => by
    rcases List.mem_cons.1 hq with rfl | hq
    · exact hb
    · cases hq⟩
theorem Blk.cells {h : Hp} {p : Nat} {cs vs : List Value} {ty : TypeId} (hb : Blk h p cs ty) (off : Nat) (hv : (cs.drop off).take vs.length = vs) : hcells h ((⟨p, 0, none⟩ : Addr).add off) vs :=
  hb.keep.cells 0 rfl off hv
theorem Blk.cells0 {h : Hp} {p : Nat} {cs vs : List Value} {ty : TypeId} (hb : Blk h p cs ty) (hv : cs.take vs.length = vs) : hcells h (⟨p, 0, none⟩ : Addr) vs := by
  have := hb.cells (vs := vs) 0 (by rw [List.drop_zero]; exact hv)
  rwa [show ((⟨p, 0, none⟩ : Addr).add 0) = ⟨p, 0, none⟩ from rfl] at this
theorem Blk.storable {h : Hp} {p : Nat} {cs : List Value} {ty : TypeId} (hb : Blk h p cs ty) (off m : Nat) (hl : off + m ≤ cs.length) : Go.Proofs.YtefbonjcpdjhcaaGreatDoor.X.storable h ((⟨p, 0, none⟩ : Addr).add off) m :=
  hb.keep.storable 0 rfl (by simpa using Nat.ble_eq_true_of_le hl)
theorem Blk.storable0 {h : Hp} {p : Nat} {cs : List Value} {ty : TypeId} (hb : Blk h p cs ty) (m : Nat) (hl : m ≤ cs.length) : Go.Proofs.YtefbonjcpdjhcaaGreatDoor.X.storable h (⟨p, 0, none⟩ : Addr) m :=
  hb.storable 0 m (by omega)
theorem Blk.set {h h1 : Hp} {p off : Nat} {cs vs : List Value} {ty : TypeId} (hb : Blk h p cs ty) (hl : off + vs.length ≤ cs.length) (e : h1 = hsets h ((⟨p, 0, none⟩ : Addr).add off) vs) : Blk h1 p (splice cs off vs) ty := by
  have := hb.keep.set 0 (off := off) (vs := vs) rfl (by simpa using Nat.ble_eq_true_of_le hl) e
  exact this.at_ (p, .cells (splice cs off vs).toArray ty (0, 0)) (List.mem_cons_self ..)
theorem Blk.set0 {h h1 : Hp} {p : Nat} {cs vs : List Value} {ty : TypeId} (hb : Blk h p cs ty) (hl : vs.length ≤ cs.length) (e : h1 = hsets h (⟨p, 0, none⟩ : Addr) vs) : Blk h1 p (splice cs 0 vs) ty :=
  hb.set (off := 0) (by omega) e
theorem Blk.fr {M : List Nat} {h h' : Hp} {p : Nat} {cs : List Value} {ty : TypeId} (hb : Blk h p cs ty) (a : Fr M h h') (hm : p ∉ M) : Blk h' p cs ty := a.at_ hb hm
theorem Blk.lt {h : Hp} {p : Nat} {cs : List Value} {ty : TypeId} (hb : Blk h p cs ty) : p < h.size := lt_of_at hb
theorem Blk.new {h h1 : Hp} {p : Nat} {cs : List Value} {ty : TypeId} (hp : p = h.size) (e : h1 = h.push (.cells cs.toArray ty)) : Blk h1 p cs ty := push_at hp e
theorem hcells.fr {M : List Nat} {h h' : Hp} {a : Addr} {vs : List Value} (hc : hcells h a vs) (f : Fr M h h') (hm : a.block ∉ M) : hcells h' a vs := by
  intro j v hj
  have := hc j v hj
  have hb : (a.add j).block = a.block := add_block a j
  unfold hcell at this ⊢
  have hlt : (a.add j).block < h.size := by
    rcases Nat.lt_or_ge (a.add j).block h.size with hl | hl
    · exact hl
    · rw [Array.getElem?_eq_none hl] at this; cases this
  rw [f.2 _ hlt (by rw [hb]; exact hm)]
  exact this

/-! ### Numbers -/
theorem wrap64 {x : Int} (h0 : -9223372036854775808 ≤ x) (h1 : x ≤ 9223372036854775807) : IntKind.i64.wrap x = x := by
  show (if (true && decide (x % 18446744073709551616 ≥ 9223372036854775808)) = true then x % 18446744073709551616 - 18446744073709551616 else x % 18446744073709551616) = x
  simp only [Bool.true_and, decide_eq_true_eq]
  split <;> omega
theorem wrapu8 {x : Int} (h0 : 0 ≤ x) (h1 : x ≤ 255) : IntKind.u8.wrap x = x := by
  show (if (false && decide (x % 256 ≥ 128)) = true then x % 256 - 256 else x % 256) = x
  simp only [Bool.false_and, Bool.false_eq_true, if_false]
  omega

/-! ### Strings -/
theorem sub_all (s : Str) (i : Nat) : sub s i s.length = s.drop i := by
  unfold sub
  rw [show ((s.length : Int)).toNat = s.length from rfl, List.take_of_length_le (Nat.le_refl _)]
  rfl
theorem bt_drop {s : Str} {i : Nat} {c : UInt8} {r : Str} (h : s.drop i = c :: r) : bt s i = c.toNat := by
  have : s[i]? = some c := by
    have := congrArg (fun l => l[0]?) h
    simpa using this
  unfold bt
  rw [show ((i : Int)).toNat = i from rfl, List.getD_eq_getElem?_getD, this]
  rfl
theorem drop_cons_lt {s : Str} {i : Nat} {c : UInt8} {r : Str} (h : s.drop i = c :: r) : i < s.length := by
  rcases Nat.lt_or_ge i s.length with h' | h'
  · exact h'
  · rw [List.drop_eq_nil_of_le h'] at h; cases h
theorem drop_succ_of {s : Str} {i : Nat} {c : UInt8} {r : Str} (h : s.drop i = c :: r) : s.drop (i + 1) = r := by
  rw [← List.drop_drop, h]; rfl
theorem drop_nil_iff {s : Str} {i : Nat} : s.drop i = [] ↔ s.length ≤ i := List.drop_eq_nil_iff
end Go.Proofs.YtefbonjcpdjhcaaGreatDoor.X

/- Stage 2: the library's functions by the shelf's contracts, as calls by heaps. -/
set_option linter.unusedVariables false
namespace Go.Proofs.YtefbonjcpdjhcaaGreatDoor.X
open Go Go.RowKit

/-- From a contract of the shelf. -/
theorem CallH.of_calls {P : Program} {f : FuncId} {args : Array Value} {h : Hp} {K : Value → Hp → Prop} {X : Chain → Hp → Prop}
    (hc : ∀ w : World, w.heap = h → Calls P f args w fun e w' => ∃ v, e = .returned v ∧ Wd w w'.heap w' ∧ K v w'.heap) : CallH P f args h K X :=
  fun w hw => (hc w hw).mono fun e w' ⟨v, he, hwd, hk⟩ => by subst he; exact ⟨hwd, hk⟩
theorem Wd.of_below {B : Nat} {w w' : World} (hb : Below B w w') : Wd w w'.heap w' := ⟨rfl, hb.os, hb.tape, hb.output⟩
theorem Fr.of_below {w w' : World} (hb : Below w.heap.size w w') : Fr [] w.heap w'.heap := ⟨hb.size, fun b hlt _ => hb.block b hlt⟩
theorem Fr.of_grow {w : World} {n : Nat} {os : Array Obj} : Fr [] w.heap (Go.Sort.grow (w.drewN n) os).heap := by
  refine ⟨by show w.heap.size ≤ (w.heap ++ os).size; simp, fun b hb _ => ?_⟩
  show (w.heap ++ os)[b]? = _
  rw [Array.getElem?_append_left hb]
theorem Fr.of_bytesWorld {w : World} {e : TypeId} {t : ByteArray} : Fr [] w.heap (Lib.bytesWorld w e t).heap ∧ Wd w (Lib.bytesWorld w e t).heap (Lib.bytesWorld w e t) := by
  have hsz : ((w.drew.alloc (.cells (Lib.bytesCells w e t) e)).heap).size = w.heap.size + 1 := by show (w.heap.push _).size = _; simp
  unfold Lib.bytesWorld World.freeze
  split
  · exact ⟨⟨by rw [hsz]; omega, fun b hb _ => push_old _ _ hb⟩, ⟨rfl, rfl, rfl, rfl⟩⟩
  · refine ⟨⟨?_, fun b hb _ => ?_⟩, ⟨rfl, rfl, rfl, rfl⟩⟩
    · simp only [Array.size_modify]
      rw [hsz]; omega
    · simp only [Array.getElem?_modify]
      rw [if_neg (by omega)]
      exact push_old _ _ hb

/-! ### What the library's variables hold -/
structure Gl (h : Hp) : Prop where
  size : Tryz.prog.globals.size ≤ h.size
  maxLen : ∃ m, hcell h ⟨0, 0, none⟩ = some (.int .i64 m)
  errSyntax : ∃ t p, hcell h ⟨1, 0, none⟩ = some (.iface t p)
  errRange : ∃ t p, hcell h ⟨2, 0, none⟩ = some (.iface t p)
  pow10 : ∃ ty fr, h[5]? = some (.cells (Lib.pow10Tab.map fun z => Value.int .u64 z).toArray ty fr)
theorem globals_size : Tryz.prog.globals.size = 8 := by kernel_rfl
theorem Gl.fr {M : List Nat} {h h' : Hp} (g : Gl h) (f : Fr M h h') (hm : ∀ b ∈ M, 8 ≤ b) : Gl h' := by
  have hs : 8 ≤ h.size := by have := g.size; rw [globals_size] at this; exact this
  have hb : ∀ b, b < 8 → h'[b]? = h[b]? := fun b hb => f.2 b (by omega) fun hmem => by have := hm b hmem; omega
  have hc : ∀ b, b < 8 → hcell h' ⟨b, 0, none⟩ = hcell h ⟨b, 0, none⟩ := fun b hlt => by unfold hcell; rw [hb b hlt]
  refine ⟨Nat.le_trans g.size f.1, ?_, ?_, ?_, ?_⟩
  · rw [hc 0 (by omega)]; exact g.maxLen
  · rw [hc 1 (by omega)]; exact g.errSyntax
  · rw [hc 2 (by omega)]; exact g.errRange
  · rw [hb 5 (by omega)]; exact g.pow10

/-! ### strings -/
theorem hasPrefix_ok (s p : Str) (h : Hp) (X : Chain → Hp → Prop) : F_strings_HasPrefix.call s p h (fun r h' => r = p.isPrefixOf s ∧ h' = h) X :=
  CallH.of_calls fun w hw => (Tryz.strings_HasPrefix (ba s) (ba p) w).mono fun e w' ⟨he, hw'⟩ => by
    subst he hw' hw
    exact ⟨_, rfl, Wd.refl _, _, rfl, rfl, rfl⟩
theorem contains_ok {s p : Str} {h : Hp} (g : Gl h) (hs : s.length < 4294967281) (X : Chain → Hp → Prop) : F_strings_Contains.call s p h (fun r h' => r = Lib.contains s p ∧ h' = h) X :=
  CallH.of_calls fun w hw => by
    obtain ⟨m, hm⟩ := g.maxLen
    subst hw
    refine (Tryz.strings_Contains (ba s) (ba p) m w hs hm).mono fun e w' ⟨he, hw'⟩ => ?_
    subst he hw'
    exact ⟨_, rfl, Wd.refl _, _, rfl, rfl, rfl⟩
theorem cut_ok {s p : Str} {h : Hp} (g : Gl h) (hs : s.length < 4294967281) (X : Chain → Hp → Prop) : F_strings_Cut.call s p h (fun a b ok h' => a = (Lib.cut s p).1 ∧ b = (Lib.cut s p).2.1 ∧ ok = (Lib.cut s p).2.2 ∧ h' = h) X :=
  CallH.of_calls fun w hw => by
    obtain ⟨m, hm⟩ := g.maxLen
    subst hw
    refine (Tryz.strings_Cut (ba s) (ba p) m w hs hm).mono fun e w' ⟨he, n, hw'⟩ => ?_
    subst he hw'
    exact ⟨_, rfl, ⟨rfl, rfl, rfl, rfl⟩, _, _, _, rfl, rfl, rfl, rfl, rfl⟩
theorem indexByte_ok (s : Str) (c : Int) (h : Hp) (X : Chain → Hp → Prop) : F_strings_IndexByte.call s c h (fun r h' => r = Lib.indexByte s c.toNat.toUInt8 ∧ h' = h) X :=
  CallH.of_calls fun w hw => (Tryz.strings_IndexByte (ba s) c w).mono fun e w' ⟨he, hw'⟩ => by
    subst he hw' hw
    exact ⟨_, rfl, Wd.refl _, _, rfl, rfl, rfl⟩

/-! ### strconv -/
theorem itoa_ok {n : Int} {h : Hp} (g : Gl h) (h0 : -9223372036854775808 ≤ n) (h1 : n ≤ 9223372036854775807) (X : Chain → Hp → Prop) : F_strconv_Itoa.call n h (fun r h' => r = Lib.itoa n ∧ Fr [] h h') X :=
  CallH.of_calls fun w hw => by
    subst hw
    have htab : Lib.TabIs Tryz.prog w "internal/strconv.uint64pow10" .u64 Lib.pow10Tab := by
      obtain ⟨ty, fr, hp⟩ := g.pow10
      unfold Lib.TabIs World.var?
      rw [show Tryz.prog.globalNamed "internal/strconv.uint64pow10" = some 5 by kernel_rfl]
      simp only [Option.bind_some, hp]
    refine (Tryz.strconv_Itoa n h0 h1 w htab).mono fun e w' ⟨he, k, os, hw'⟩ => ?_
    subst he hw'
    exact ⟨_, rfl, ⟨rfl, rfl, rfl, rfl⟩, _, rfl, rfl, Fr.of_grow⟩
/-- Atoi: the number, or an error. -/
theorem atoi_ok {s : Str} {h : Hp} (g : Gl h) (hs : s.length ≤ 281474976710656) (X : Chain → Hp → Prop) :
    F_strconv_Atoi.call s h (fun n e h' => (match Lib.atoiAll s with | .ok v => n = v ∧ e = none | _ => e ≠ none ∧ -9223372036854775808 ≤ n ∧ n ≤ 9223372036854775807) ∧ Fr [] h h') X :=
  CallH.of_calls fun w hw => by
    subst hw
    cases hA : Lib.atoiAll s with
    | ok v =>
      refine (Tryz.strconv_Atoi_ok (ba s) (by show s.length ≤ _; omega) v hA w).mono fun e w' ⟨he, hw'⟩ => ?_
      subst he
      rcases hw' with rfl | ⟨t, rfl⟩
      · exact ⟨_, rfl, Wd.refl _, v, none, rfl, ⟨rfl, rfl⟩, Fr.refl _ _⟩
      · exact ⟨_, rfl, Fr.of_bytesWorld.2, v, none, rfl, ⟨rfl, rfl⟩, Fr.of_bytesWorld.1⟩
    | range =>
      obtain ⟨t, p, hv⟩ := g.errRange
      refine (Tryz.strconv_Atoi_range (ba s) hs hA _ w hv (.inr ⟨_, _, rfl⟩)).mono fun e w' ⟨N, he, _, _, hb⟩ => ?_
      subst he
      refine ⟨_, rfl, Wd.of_below hb, Lib.atoiSat s, some (139, .pointer (some ⟨N, 0, none⟩)), rfl, ⟨by simp, ?_, ?_⟩, Fr.of_below hb⟩
      · unfold Lib.atoiSat; split <;> omega
      · unfold Lib.atoiSat; split <;> omega
    | _ =>
      obtain ⟨t, p, hv⟩ := g.errSyntax
      refine (Tryz.strconv_Atoi_syntax (ba s) hs hA _ w hv (.inr ⟨_, _, rfl⟩)).mono fun e w' ⟨N, he, _, _, hb⟩ => ?_
      subst he
      exact ⟨_, rfl, Wd.of_below hb, 0, some (139, .pointer (some ⟨N, 0, none⟩)), rfl, ⟨by simp, by omega, by omega⟩, Fr.of_below hb⟩
end Go.Proofs.YtefbonjcpdjhcaaGreatDoor.X

/- Stage 2: slices that are grown; terms and how they lie. -/
set_option linter.unusedVariables false
namespace Go.Proofs.YtefbonjcpdjhcaaGreatDoor.X
open Go Go.RowKit

/-! ### Slices -/
section
variable {T : Type} (c : T → List Value) (k : Nat) (ty : TypeId)
def cellsOf (vs : List T) : List Value := vs.flatMap c
variable {c k}
theorem cellsOf_len (hk : ∀ v, (c v).length = k) : ∀ vs : List T, (cellsOf c vs).length = vs.length * k
  | [] => by simp [cellsOf]
  | v :: vs => by
    have := cellsOf_len hk vs
    simp only [cellsOf, List.flatMap_cons, List.length_append, List.length_cons] at *
    rw [this, hk, Nat.add_mul, Nat.one_mul, Nat.add_comm]
theorem cellsOf_append (vs us : List T) : cellsOf c (vs ++ us) = cellsOf c vs ++ cellsOf c us := by simp [cellsOf]
theorem cellsOf_one (v : T) : cellsOf c [v] = c v := by simp [cellsOf]
theorem cellsOf_at (hk : ∀ v, (c v).length = k) : ∀ (vs : List T) (i : Nat) (v : T), vs[i]? = some v → ((cellsOf c vs).drop (i * k)).take k = c v
  | [], i, v, hi => by simp at hi
  | u :: vs, 0, v, hi => by
    simp at hi
    subst hi
    simp only [cellsOf, List.flatMap_cons, Nat.zero_mul, List.drop_zero]
    rw [List.take_append_of_le_length (by rw [hk]; exact Nat.le_refl _), List.take_of_length_le (by rw [hk]; exact Nat.le_refl _)]
  | u :: vs, i + 1, v, hi => by
    have := cellsOf_at hk vs i v (by simpa using hi)
    simp only [cellsOf, List.flatMap_cons] at *
    have e : ∀ X : List Value, (c u ++ X).drop k = X := fun X => by rw [← hk u, List.drop_left]
    rw [Nat.add_mul, Nat.one_mul, Nat.add_comm, ← List.drop_drop, e]
    exact this
variable (c k)
/-- A slice that reads as vs. P: where its cells may lie. -/
def RepS (h : Hp) (P : Nat → Prop) (x : Sl) (vs : List T) : Prop :=
  x.len = vs.length ∧ x.len ≤ x.cap ∧ (vs ≠ [] → ∃ b off, x.a = some ⟨b, off, none⟩ ∧ P b ∧ hcells h ⟨b, off, none⟩ (cellsOf c vs))
/-- A slice of one's own: its block has room behind. -/
def SlG (h : Hp) (x : Sl) (vs : List T) : List Nat → Prop
  | [] => x = ⟨none, 0, 0⟩ ∧ vs = []
  | b :: _ => x.len = vs.length ∧ (x.len ≤ x.cap ∧ x.cap ≤ maxLen) ∧ x.a = some ⟨b, 0, none⟩ ∧ ∃ rest, rest.length = (x.cap - x.len) * k ∧ Blk h b (cellsOf c vs ++ rest) ty
variable {c k ty}
theorem SlG.fr {h h' : Hp} {x : Sl} {vs : List T} {O M : List Nat} (g : SlG c k ty h x vs O) (f : Fr M h h') (hm : ∀ b ∈ O, b ∉ M) : SlG c k ty h' x vs O := by
  cases O with
  | nil => exact g
  | cons b O =>
    obtain ⟨h1, h2, h3, rest, h4, h5⟩ := g
    exact ⟨h1, h2, h3, rest, h4, h5.fr f (hm b (List.mem_cons_self ..))⟩
theorem SlG.len {h : Hp} {x : Sl} {vs : List T} {O : List Nat} (g : SlG c k ty h x vs O) : x.len = vs.length := by
  cases O with
  | nil => obtain ⟨rfl, rfl⟩ := g; rfl
  | cons b O => exact g.1
theorem SlG.lt {h : Hp} {x : Sl} {vs : List T} {b : Nat} {O : List Nat} (g : SlG c k ty h x vs (b :: O)) : b < h.size := by
  obtain ⟨_, _, _, _, _, hb⟩ := g
  exact hb.lt
theorem hcells_take {h : Hp} {a : Addr} {vs us : List Value} (hc : hcells h a (vs ++ us)) : hcells h a vs := fun j v hj => hc j v (by
  rw [List.getElem?_append_left (List.getElem?_eq_some_iff.1 hj).1]; exact hj)
theorem SlG.rep {h : Hp} {x : Sl} {vs : List T} {O : List Nat} (g : SlG c k ty h x vs O) {P : Nat → Prop} (hP : ∀ b ∈ O, P b) : RepS c h P x vs := by
  cases O with
  | nil => obtain ⟨rfl, rfl⟩ := g; exact ⟨rfl, Nat.le_refl _, fun h => absurd rfl h⟩
  | cons b O =>
    obtain ⟨h1, h2, h3, rest, h4, h5⟩ := g
    exact ⟨h1, h2.1, fun _ => ⟨b, 0, h3, hP b (List.mem_cons_self ..), hcells_take (h5.cells0 (List.take_of_length_le (Nat.le_refl _)))⟩⟩
theorem RepS.fr {h h' : Hp} {P : Nat → Prop} {x : Sl} {vs : List T} {M : List Nat} (g : RepS c h P x vs) (f : Fr M h h') (hm : ∀ b, P b → b ∉ M) : RepS c h' P x vs :=
  ⟨g.1, g.2.1, fun hv => let ⟨b, off, h1, h2, h3⟩ := g.2.2 hv; ⟨b, off, h1, h2, h3.fr f (hm b h2)⟩⟩
theorem RepS.mono {h : Hp} {P P' : Nat → Prop} {x : Sl} {vs : List T} (g : RepS c h P x vs) (hp : ∀ b, P b → P' b) : RepS c h P' x vs :=
  ⟨g.1, g.2.1, fun hv => let ⟨b, off, h1, h2, h3⟩ := g.2.2 hv; ⟨b, off, h1, hp b h2, h3⟩⟩
theorem RepS.nil {h : Hp} {P : Nat → Prop} : RepS c h P ⟨none, 0, 0⟩ [] := ⟨rfl, Nat.le_refl _, fun h => absurd rfl h⟩
/-- An element is loaded. -/
theorem RepS.get (hk : ∀ v, (c v).length = k) {h : Hp} {P : Nat → Prop} {x : Sl} {vs : List T} (g : RepS c h P x vs) {i : Nat} {v : T} (hi : vs[i]? = some v) : ∃ a, x.a = some a ∧ hcells h (a.add (i * k)) (c v) := by
  have hlt : i < vs.length := (List.getElem?_eq_some_iff.1 hi).1
  obtain ⟨b, off, h1, _, h3⟩ := g.2.2 (by intro e; subst e; simp at hi)
  refine ⟨_, h1, fun j u hj => ?_⟩
  have hjl : j < k := by have := (List.getElem?_eq_some_iff.1 hj).1; rw [hk] at this; exact this
  have he := cellsOf_at hk vs i v hi
  have : (cellsOf c vs)[i * k + j]? = some u := by
    rw [← he, List.getElem?_take, if_pos hjl, List.getElem?_drop] at hj
    exact hj
  have := h3 _ _ this
  rw [add_add]
  exact this
theorem IdxW.of {x : Sl} {i : Nat} {K : Addr → Prop} {a : Addr} (hi : i < x.len) (ha : x.a = some a) (hk : K a) : IdxW x (i : Int) K := ⟨by omega, by omega, a, ha, hk⟩
/-- append onto a slice of one's own. -/
theorem AppendW.own (hk : ∀ v, (c v).length = k) {h : Hp} {x : Sl} {vs us : List T} {O : List Nat} {bytes : Nat} {z : List Value} {K : Sl → Hp → Prop} (hO : O.length ≤ 1)
    (g : SlG c k ty h x vs O) (hb : (vs.length + us.length) * bytes ≤ 140737488355328) (hl : vs.length + us.length ≤ 9223372036854775807) (hz : z.length = k)
    (hh : ∀ x' h' O', SlG c k ty h' x' (vs ++ us) O' → O'.length ≤ 1 → Fr O h h' → (∀ y ∈ O', y ∈ O ∨ h.size ≤ y) → K x' h') : AppendW h ty k bytes z x us.length (cellsOf c vs) (cellsOf c us) K := by
  have hzeros : ∀ m, (zeros z m).length = m * k := by
    intro m
    unfold zeros Builtin.zeroCells
    simp [hz]
  have hlen := g.len
  refine ⟨?_, by rw [hlen]; exact hb, by rw [hlen]; exact hl, by rw [cellsOf_len hk, hlen], ?_, ?_, ?_, ?_⟩
  · cases O with
    | nil => obtain ⟨rfl, rfl⟩ := g; exact Nat.le_refl _
    | cons b O => exact g.2.1.1
  · intro hne
    cases O with
    | nil => obtain ⟨rfl, rfl⟩ := g; exact absurd rfl hne
    | cons b O =>
      obtain ⟨_, _, h3, rest, _, h5⟩ := g
      exact ⟨_, h3, hcells_take (h5.cells0 (List.take_of_length_le (Nat.le_refl _)))⟩
  · intro hm
    obtain rfl : us = [] := List.eq_nil_of_length_eq_zero hm
    exact hh x h O (by rw [List.append_nil]; exact g) hO (Fr.refl _ _) (fun y hy => .inl hy)
  · intro hpos hroom
    cases O with
    | nil =>
      obtain ⟨rfl, rfl⟩ := g
      have : 0 + us.length ≤ 0 := hroom
      omega
    | cons b O =>
      obtain rfl : O = [] := by simpa using hO
      obtain ⟨h1, h2, h3, rest, h4, h5⟩ := g
      have hul := cellsOf_len hk us
      have hsz : x.len * k + (cellsOf c us).length ≤ (cellsOf c vs ++ rest).length := by
        rw [List.length_append, hul, h4, cellsOf_len hk vs, h1]
        rw [h1] at hroom
        have : (x.cap - vs.length) * k = x.cap * k - vs.length * k := Nat.sub_mul ..
        have h6 : (vs.length + us.length) * k ≤ x.cap * k := Nat.mul_le_mul_right k hroom
        rw [Nat.add_mul] at h6
        omega
      refine ⟨b, 0, h3, ?_, ?_⟩
      · have := h5.storable (x.len * k) (cellsOf c us).length hsz
        rw [add_zero_lit] at this
        rw [Nat.zero_add]; exact this
      · rw [Nat.zero_add]
        have hset := h5.set (off := x.len * k) (vs := cellsOf c us) (h1 := hsets h ((⟨b, 0, none⟩ : Addr).add (x.len * k)) (cellsOf c us)) hsz rfl
        rw [add_zero_lit] at hset
        refine hh _ _ [b] ⟨by simp [h1], ⟨hroom, h2.2⟩, h3, rest.drop (us.length * k), ?_, ?_⟩ (Nat.le_refl _) (Fr.sets rfl) (fun y hy => .inl hy)
        · have e1 : x.cap - x.len = (x.cap - (x.len + us.length)) + us.length := by omega
          rw [List.length_drop, h4, e1, Nat.add_mul, Nat.add_sub_cancel]
        · rw [cellsOf_append]
          have : splice (cellsOf c vs ++ rest) (x.len * k) (cellsOf c us) = cellsOf c vs ++ cellsOf c us ++ rest.drop (us.length * k) := by
            unfold splice
            have hl : (cellsOf c vs).length = x.len * k := by rw [cellsOf_len hk, h1]
            rw [← hl, List.take_left, hul, List.drop_append, List.drop_of_length_le (Nat.le_add_right _ _), List.nil_append, Nat.add_sub_cancel_left]
          rw [← this]
          exact hset
  · intro hg cp hcp hmx
    refine hh _ _ [h.size] ⟨by simp [hlen], ⟨hcp, hmx⟩, rfl, zeros z (cp - (x.len + us.length)), hzeros _, ?_⟩ (Nat.le_refl _) ((Fr.push rfl).sub (fun _ hx => by cases hx)) (fun y hy => .inr (by simp at hy; omega))
    rw [cellsOf_append]
    exact Blk.new rfl rfl
/-- append(x, v): v lies in a block of its own. -/
theorem AppW.one (hk : ∀ v, (c v).length = k) (h1c : ∀ v u, u ∈ c v → u.oneCell' = true) {h : Hp} {x : Sl} {vs : List T} {O : List Nat} {v : T} {p bytes : Nat} {z : List Value} {K : Sl → Hp → Prop} (hO : O.length ≤ 1)
    (g : SlG c k ty h x vs O) (hp : Blk h p (c v) ty) (hb : (vs.length + 1) * bytes ≤ 140737488355328) (hl : vs.length + 1 ≤ 9223372036854775807) (hz : z.length = k)
    (hh : ∀ x' h' O', SlG c k ty h' x' (vs ++ [v]) O' → O'.length ≤ 1 → Fr O h h' → (∀ y ∈ O', y ∈ O ∨ h.size ≤ y) → K x' h') : AppW h ty k bytes z x ⟨some ⟨p, 0, none⟩, 1, 1⟩ K := by
  have e := cellsOf_one (c := c) v
  refine ⟨cellsOf c vs, c v, by rw [hk]; simp, fun _ => ⟨_, rfl, hp.cells0 (List.take_of_length_le (Nat.le_refl _))⟩, h1c v, ?_⟩
  have := AppendW.own (us := [v]) hk hO g hb hl hz hh
  rw [cellsOf_one] at this
  exact this
end

/-! ### Terms -/
inductive Tm where
  | mk (kind n : Int) (s : Str) (l : List Tm)
def Tm.kind : Tm → Int | .mk k _ _ _ => k
def Tm.n : Tm → Int | .mk _ n _ _ => n
def Tm.s : Tm → Str | .mk _ _ s _ => s
def Tm.l : Tm → List Tm | .mk _ _ _ l => l
abbrev TV := V_api_Term
abbrev tc : TV → List Value := V_api_Term.cells
theorem tc_len (v : TV) : (tc v).length = 4 := rfl
theorem tc_one (v : TV) (u : Value) (hu : u ∈ tc v) : u.oneCell' = true := by
  have : u = .int .i64 v.Kind ∨ u = .int .i64 v.N ∨ u = .string (ba v.S) ∨ u = sl v.L := by
    simpa [V_api_Term.cells] using hu
  rcases this with rfl | rfl | rfl | rfl <;> rfl
mutual
/-- The value v is the term; its blocks meet P. -/
def RepT (h : Hp) (P : Nat → Prop) (v : TV) : Tm → Prop
  | .mk k n s l => v.Kind = k ∧ v.N = n ∧ v.S = s ∧ ∃ vs, RepS tc h P v.L vs ∧ RepL h P vs l
def RepL (h : Hp) (P : Nat → Prop) : List TV → List Tm → Prop
  | [], [] => True
  | v :: vs, t :: ts => RepT h P v t ∧ RepL h P vs ts
  | _, _ => False
end
mutual
theorem RepT.fr {h h' : Hp} {P : Nat → Prop} {M : List Nat} (f : Fr M h h') (hm : ∀ b, P b → b ∉ M) : ∀ (t : Tm) (v : TV), RepT h P v t → RepT h' P v t
  | .mk k n s l, v, ⟨h1, h2, h3, vs, h4, h5⟩ => ⟨h1, h2, h3, vs, h4.fr f hm, RepL.fr f hm l vs h5⟩
theorem RepL.fr {h h' : Hp} {P : Nat → Prop} {M : List Nat} (f : Fr M h h') (hm : ∀ b, P b → b ∉ M) : ∀ (l : List Tm) (vs : List TV), RepL h P vs l → RepL h' P vs l
  | [], [], _ => trivial
  | t :: ts, v :: vs, ⟨h1, h2⟩ => ⟨RepT.fr f hm t v h1, RepL.fr f hm ts vs h2⟩
  | [], _ :: _, h => h.elim
  | _ :: _, [], h => h.elim
end
mutual
theorem RepT.mono {h : Hp} {P P' : Nat → Prop} (hp : ∀ b, P b → P' b) : ∀ (t : Tm) (v : TV), RepT h P v t → RepT h P' v t
  | .mk k n s l, v, ⟨h1, h2, h3, vs, h4, h5⟩ => ⟨h1, h2, h3, vs, h4.mono hp, RepL.mono hp l vs h5⟩
theorem RepL.mono {h : Hp} {P P' : Nat → Prop} (hp : ∀ b, P b → P' b) : ∀ (l : List Tm) (vs : List TV), RepL h P vs l → RepL h P' vs l
  | [], [], _ => trivial
  | t :: ts, v :: vs, ⟨h1, h2⟩ => ⟨RepT.mono hp t v h1, RepL.mono hp ts vs h2⟩
  | [], _ :: _, h => h.elim
  | _ :: _, [], h => h.elim
end
theorem RepL.length {h : Hp} {P : Nat → Prop} : ∀ (l : List Tm) (vs : List TV), RepL h P vs l → vs.length = l.length
  | [], [], _ => rfl
  | t :: ts, v :: vs, ⟨_, h2⟩ => by simp [RepL.length ts vs h2]
  | [], _ :: _, h => h.elim
  | _ :: _, [], h => h.elim
theorem RepL.append {h : Hp} {P : Nat → Prop} : ∀ (l m : List Tm) (vs us : List TV), RepL h P vs l → RepL h P us m → RepL h P (vs ++ us) (l ++ m)
  | [], m, [], us, _, h2 => h2
  | t :: ts, m, v :: vs, us, ⟨h0, h1⟩, h2 => ⟨h0, RepL.append ts m vs us h1 h2⟩
  | [], _, _ :: _, _, h, _ => h.elim
  | _ :: _, _, [], _, h, _ => h.elim
theorem RepL.get {h : Hp} {P : Nat → Prop} : ∀ (l : List Tm) (vs : List TV) (i : Nat) (t : Tm), RepL h P vs l → l[i]? = some t → ∃ v, vs[i]? = some v ∧ RepT h P v t
  | t' :: ts, v :: vs, 0, t, ⟨h1, _⟩, hi => by simp at hi; subst hi; exact ⟨v, rfl, h1⟩
  | t' :: ts, v :: vs, i + 1, t, ⟨_, h2⟩, hi => by
    obtain ⟨u, hu, hr⟩ := RepL.get ts vs i t h2 (by simpa using hi)
    exact ⟨u, by simpa using hu, hr⟩
  | [], _, _, _, _, hi => by simp at hi
  | _ :: _, [], _, _, h, _ => h.elim
end Go.Proofs.YtefbonjcpdjhcaaGreatDoor.X

/- Stage 2: the program's reader, its small parts: is, must, number. -/
set_option linter.unusedVariables false
namespace Go.Proofs.YtefbonjcpdjhcaaGreatDoor.X
open Go Go.RowKit

/-! ### The cursor -/
/-- The text's bound, wherever it is read. -/
def Small (s : Str) : Prop := s.length ≤ 1048576
def Cur (h : Hp) (p : Nat) (s : Str) (i : Nat) : Prop := Blk h p [.string (ba s), .int .i64 (i : Int)] 108 ∧ i ≤ s.length
theorem Cur.str {h : Hp} {p : Nat} {s : Str} {i : Nat} (c : Cur h p s i) : hcells h ((⟨p, 0, none⟩ : Addr).add 0) (cS s) := c.1.cells 0 rfl
theorem Cur.pos {h : Hp} {p : Nat} {s : Str} {i : Nat} (c : Cur h p s i) : hcells h ((⟨p, 0, none⟩ : Addr).add 1) (cI .i64 (i : Int)) := c.1.cells 1 rfl
theorem Cur.st {h : Hp} {p : Nat} {s : Str} {i : Nat} (c : Cur h p s i) : storable h ((⟨p, 0, none⟩ : Addr).add 1) 1 := c.1.storable 1 1 (Nat.le_refl _)
theorem Cur.set {h h1 : Hp} {p : Nat} {s : Str} {i : Nat} (c : Cur h p s i) (j : Nat) (hj : j ≤ s.length) {x : Int} (hx : x = (j : Int)) (e : h1 = hsets h ((⟨p, 0, none⟩ : Addr).add 1) [.int .i64 x]) : Cur h1 p s j ∧ Fr [p] h h1 := by
  subst hx
  have f := Fr.sets e
  rw [add_block] at f
  exact ⟨⟨c.1.set (off := 1) (vs := [.int .i64 (j : Int)]) (Nat.le_refl _) e, hj⟩, f⟩
theorem Cur.fr {h h' : Hp} {p : Nat} {s : Str} {i : Nat} {M : List Nat} (c : Cur h p s i) (f : Fr M h h') (hm : p ∉ M) : Cur h' p s i := ⟨c.1.fr f hm, c.2⟩
theorem isPrefixOf_drop {t s : Str} {i : Nat} (h : t.isPrefixOf (s.drop i) = true) (hi : i ≤ s.length) : i + t.length ≤ s.length := by
  have := (List.isPrefixOf_iff_prefix.1 h).length_le
  simp at this
  omega
def flt : Chain := [{ v := ifc (some (104, Value.agg #[])), recovered := false }]

/-! ### is, must -/
theorem cursor_is_ok {h : Hp} {p : Nat} {s t : Str} {i : Nat} (c : Cur h p s i) (hs : Small s) (X : Chain → Hp → Prop) :
    F_text_cursor_is.call (some ⟨p, 0, none⟩) t h (fun r h' => r = t.isPrefixOf (s.drop i) ∧ Fr [p] h h' ∧ Cur h' p s (if r then i + t.length else i)) X := by
  refine F_text_cursor_is.sound ?_
  unfold F_text_cursor_is.body
  have hi := c.2
  unfold Small at hs
  refine ⟨_, rfl, s, c.str, (i : Int), c.pos, ⟨by omega, by omega, by omega⟩, ?_⟩
  rw [sub_all]
  refine F_strings_HasPrefix.mono (hasPrefix_ok _ _ _ X) ?_ fun _ _ h => h
  rintro r h' ⟨rfl, rfl⟩
  refine ⟨fun hr => ⟨(i : Int), c.pos, c.st, fun h1 e => ?_⟩, fun hr => ?_⟩
  · have hl := isPrefixOf_drop hr hi
    have := c.set (i + t.length) hl (x := IntKind.i64.wrap ((i : Int) + (t.length : Int))) (by rw [wrap64 (by omega) (by omega)]; omega) e
    exact ⟨hr.symm, this.2, by simpa using this.1⟩
  · exact ⟨hr.symm, Fr.refl _ _, by simpa using c⟩
theorem cursor_must_ok {h : Hp} {p : Nat} {s t : Str} {i : Nat} (c : Cur h p s i) (hs : Small s) :
    F_text_cursor_must.call (some ⟨p, 0, none⟩) t h (fun h' => t.isPrefixOf (s.drop i) = true ∧ Fr [p] h h' ∧ Cur h' p s (i + t.length)) (fun ch h' => ch = flt ∧ t.isPrefixOf (s.drop i) = false ∧ Fr [p] h h') := by
  refine F_text_cursor_must.sound ?_
  unfold F_text_cursor_must.body
  refine F_text_cursor_is.mono (cursor_is_ok c hs _) ?_ fun _ _ h => h
  rintro r h' ⟨hr, f, c'⟩
  cases r with
  | true => exact ⟨fun e => by simp at e, fun _ => ⟨hr.symm, f, by simpa using c'⟩⟩
  | false => exact ⟨fun _ => ⟨rfl, hr.symm, f⟩, fun e => by simp at e⟩

/-! ### Numbers -/
def isDig (c : UInt8) : Bool := decide (48 ≤ c.toNat) && decide (c.toNat ≤ 57)
def numTok : Str → Str
  | 45 :: r => 45 :: r.takeWhile isDig
  | r => r.takeWhile isDig
def numOf (tok : Str) : Option Int :=
  match Lib.atoiAll tok with
  | .ok n => if Lib.itoa n = tok then some n else none
  | _ => none
def pNum (lo hi : Int) (r : Str) : Option (Int × Str) :=
  match numOf (numTok r) with
  | some n => if lo ≤ n ∧ n ≤ hi then some (n, r.drop (numTok r).length) else none
  | none => none
theorem takeWhile_drop (f : UInt8 → Bool) : ∀ (l : Str) (k : Nat), k ≤ (l.takeWhile f).length → (l.drop k).takeWhile f = (l.takeWhile f).drop k
  | [], k, _ => by simp
  | c :: l, 0, _ => by simp
  | c :: l, k + 1, hk => by
    by_cases hc : f c = true
    · rw [List.takeWhile_cons_of_pos hc] at hk ⊢
      simp only [List.drop_succ_cons]
      exact takeWhile_drop f l k (by simpa using hk)
    · rw [List.takeWhile_cons_of_neg hc] at hk
      simp at hk
theorem takeWhile_take (f : UInt8 → Bool) : ∀ (l : Str), l.take (l.takeWhile f).length = l.takeWhile f
  | [] => rfl
  | c :: l => by
    by_cases hc : f c = true
    · rw [List.takeWhile_cons_of_pos hc]; simp [takeWhile_take f l]
    · rw [List.takeWhile_cons_of_neg hc]; rfl
theorem takeWhile_le (f : UInt8 → Bool) (l : Str) : (l.takeWhile f).length ≤ l.length := (List.takeWhile_prefix f).length_le
theorem numTok_take : ∀ (r : Str), r.take (numTok r).length = numTok r
  | [] => rfl
  | c :: r => by
    unfold numTok
    split
    · rename_i r' heq
      injection heq with h1 h2
      subst h1 h2
      simp [takeWhile_take]
    · exact takeWhile_take _ _
def posOf (h : Hp) (p : Nat) : Nat :=
  match hcell h ⟨p, 1, none⟩ with
  | some (.int _ n) => n.toNat
  | _ => 0
theorem Cur.posOf {h : Hp} {p : Nat} {s : Str} {i : Nat} (c : Cur h p s i) : Go.Proofs.YtefbonjcpdjhcaaGreatDoor.X.posOf h p = i := by
  have := c.pos 0 _ rfl
  rw [add_zero_lit] at this
  unfold Go.Proofs.YtefbonjcpdjhcaaGreatDoor.X.posOf
  rw [show (⟨p, 1, none⟩ : Addr) = (⟨p, 1, none⟩ : Addr).add 0 from rfl, this]
  simp
theorem isPrefixOf_one (c : UInt8) (r : Str) : ([c] : Str).isPrefixOf r = true ↔ ∃ r', r = c :: r' := by
  cases r with
  | nil => simp
  | cons d r =>
    simp only [List.isPrefixOf, Bool.and_true, beq_iff_eq]
    exact ⟨fun e => ⟨r, by rw [e]⟩, fun ⟨r', e⟩ => by injection e with e1 _; exact e1.symm⟩
theorem numTok_len (s : Str) (i : Nat) : i + (numTok (s.drop i)).length = (if ([45] : Str).isPrefixOf (s.drop i) then i + 1 else i) + ((s.drop (if ([45] : Str).isPrefixOf (s.drop i) then i + 1 else i)).takeWhile isDig).length := by
  cases hp : ([45] : Str).isPrefixOf (s.drop i) with
  | true =>
    obtain ⟨r', hr⟩ := (isPrefixOf_one _ _).1 hp
    simp only [if_true]
    rw [drop_succ_of hr, hr]
    simp only [numTok, List.length_cons]
    omega
  | false =>
    simp only [Bool.false_eq_true, if_false]
    congr 1
    unfold numTok
    split
    · rename_i r heq
      rw [heq] at hp
      simp at hp
    · rfl
theorem atoiAll_bounds {l : Str} {n : Int} (h : Lib.atoiAll l = .ok n) : -9223372036854775808 ≤ n ∧ n ≤ 9223372036854775807 := by
  unfold Lib.atoiAll at h
  split at h
  · cases h
  · simp only at h
    split at h
    · cases h
    · cases h
    · rename_i u _
      split at h
      · cases h
      · split at h
        · cases h
        · rename_i h1 h2
          injection h with h
          subst h
          split <;> omega
theorem cursor_number_ok {h : Hp} {p : Nat} {s : Str} {i : Nat} {lo hi : Int} (g : Gl h) (hp8 : 8 ≤ p) (c : Cur h p s i) (hs : Small s) :
    F_text_cursor_number.call (some ⟨p, 0, none⟩) lo hi h (fun n h' => pNum lo hi (s.drop i) = some (n, s.drop (i + (numTok (s.drop i)).length)) ∧ Fr [p] h h' ∧ Cur h' p s (i + (numTok (s.drop i)).length))
      (fun ch h' => ch = flt ∧ pNum lo hi (s.drop i) = none ∧ Fr [p] h h') := by
  refine F_text_cursor_number.sound ?_
  unfold F_text_cursor_number.body
  have hi' := c.2
  have hsm : s.length ≤ 1048576 := hs
  refine ⟨_, rfl, (i : Int), c.pos, ?_⟩
  refine F_text_cursor_is.mono (cursor_is_ok c hs _) ?_ fun _ _ h => h
  rintro r h4 ⟨hr, f4, c4⟩
  have hlen := numTok_len s i
  rw [← hr] at hlen
  generalize hi1 : (if r = true then i + 1 else i) = i1 at hlen
  have c4 : Cur h4 p s i1 := by rw [← hi1]; cases r <;> simpa using c4
  have hi1l := c4.2
  generalize hjf : i + (numTok (s.drop i)).length = jf at hlen ⊢
  have hii1 : i ≤ i1 := by rw [← hi1]; split <;> omega
  have hjl : jf ≤ s.length := by
    have := takeWhile_le isDig (s.drop i1)
    simp at this
    omega
  refine ⟨fun _ h' => ∃ j, i1 ≤ j ∧ j ≤ jf ∧ Fr [p] h h' ∧ Cur h' p s j, fun _ h' => s.length - posOf h' p, ⟨i1, Nat.le_refl _, by omega, f4, c4⟩, ?_⟩
  rintro _ h6 ⟨j, hj1, hj2, f6, c6⟩
  have hj := c6.2
  refine ⟨(j : Int), c6.pos, s, c6.str, fun hlt => ⟨by omega, by omega⟩, fun hlt => ⟨by omega, ?_⟩, ?_, ?_⟩
  · simp only [Bool.and_eq_true, decide_eq_true_eq] at hlt; omega
  · -- a digit more
    intro hc
    simp only [Bool.and_eq_true, decide_eq_true_eq] at hc
    have hlt : j < s.length := by omega
    obtain ⟨d, r', hd⟩ : ∃ d r', s.drop j = d :: r' := ⟨s[j], s.drop (j + 1), List.drop_eq_getElem_cons hlt⟩
    have hdig : isDig d = true := by
      have hb := bt_drop hd
      rw [hb] at hc
      unfold isDig
      simp only [Bool.and_eq_true, decide_eq_true_eq]
      omega
    have htw := takeWhile_drop isDig (s.drop i1) (j - i1) (by omega)
    rw [List.drop_drop, show i1 + (j - i1) = j by omega, hd, List.takeWhile_cons_of_pos hdig] at htw
    have hlt2 : j < jf := by
      have := congrArg List.length htw
      simp at this
      omega
    refine ⟨c6.st, fun h15 e => ?_⟩
    have hx := c6.set (j + 1) (by omega) (x := IntKind.i64.wrap ((j : Int) + 1)) (by rw [wrap64 (by omega) (by omega)]; omega) e
    refine ⟨⟨j + 1, by omega, by omega, f6.same hx.2, hx.1⟩, ?_⟩
    show s.length - Go.Proofs.YtefbonjcpdjhcaaGreatDoor.X.posOf h15 p < s.length - Go.Proofs.YtefbonjcpdjhcaaGreatDoor.X.posOf h6 p
    rw [hx.1.posOf, c6.posOf]
    omega
  · -- the end
    intro hc
    have hjj : j = jf := by
      rcases Nat.lt_or_ge j jf with hlt | hge
      · exfalso
        have hlts : j < s.length := by omega
        obtain ⟨d, r', hd⟩ : ∃ d r', s.drop j = d :: r' := ⟨s[j], s.drop (j + 1), List.drop_eq_getElem_cons hlts⟩
        have htw := takeWhile_drop isDig (s.drop i1) (j - i1) (by omega)
        rw [List.drop_drop, show i1 + (j - i1) = j by omega, hd] at htw
        have hdig : isDig d = true := by
          by_cases hd' : isDig d = true
          · exact hd'
          · rw [List.takeWhile_cons_of_neg hd'] at htw
            have := congrArg List.length htw
            simp at this
            omega
        have hb := bt_drop hd
        rw [hb] at hc
        unfold isDig at hdig
        simp only [Bool.and_eq_true, decide_eq_true_eq] at hdig
        have : (((decide ((j : Int) < (s.length : Int))) && (decide ((d.toNat : Int) ≥ 48))) && (decide ((d.toNat : Int) ≤ 57))) = true := by
          simp only [Bool.and_eq_true, decide_eq_true_eq]; omega
        rw [this] at hc
        cases hc
      · omega
    subst hjj
    have htok : sub s (i : Int) (j : Int) = numTok (s.drop i) := by
      unfold sub
      rw [show ((j : Int)).toNat = j from rfl, show ((i : Int)).toNat = i from rfl, ← hjf, ← List.take_drop]
      exact numTok_take _
    refine ⟨⟨by omega, by omega, by omega⟩, ?_⟩
    rw [htok]
    have g6 : Gl h6 := g.fr f6 (by simpa using hp8)
    have htl : (numTok (s.drop i)).length ≤ 1048576 := by omega
    refine F_strconv_Atoi.mono (atoi_ok g6 (by omega) _) ?_ fun _ _ h => h
    rintro n e h19 ⟨hA, f19⟩
    have c19 : Cur h19 p s j := c6.fr f19 (by simp)
    have g19 : Gl h19 := g6.fr f19 (by simp)
    have f19' : Fr [p] h h19 := f6.step f19
    refine JoinW.inl ⟨fun he => ?_, fun he => ?_⟩
    · refine ⟨fun _ => ⟨rfl, ?_, f19'⟩, fun e' => by cases e'⟩
      unfold pNum numOf
      cases hAe : Lib.atoiAll (numTok (s.drop i)) with
      | ok v => rw [hAe] at hA; obtain ⟨_, rfl⟩ := hA; simp at he
      | range => rfl
      | _ => rfl
    · have hen : e = none := by cases e <;> simp at he ⊢
      subst hen
      have hAo : Lib.atoiAll (numTok (s.drop i)) = .ok n := by
        cases hAe : Lib.atoiAll (numTok (s.drop i)) with
        | ok v => rw [hAe] at hA; rw [hA.1]
        | range => rw [hAe] at hA; exact absurd rfl hA.1
        | _ => rw [hAe] at hA; exact absurd rfl hA.1
      have hnb : -9223372036854775808 ≤ n ∧ n ≤ 9223372036854775807 := atoiAll_bounds hAo
      refine ⟨s, c19.str, (j : Int), c19.pos, ⟨by omega, by omega, by omega⟩, ?_⟩
      rw [htok]
      refine F_strconv_Itoa.mono (itoa_ok g19 hnb.1 hnb.2 _) ?_ fun _ _ h => h
      rintro it h28 ⟨rfl, f28⟩
      have c28 : Cur h28 p s j := c19.fr f28 (by simp)
      have f28' : Fr [p] h h28 := f19'.step f28
      refine ⟨c28.pos, c28.str, fun hne => ?_, fun heq => ?_⟩
      · refine ⟨fun _ => ⟨rfl, ?_, f28'⟩, fun e' => by cases e'⟩
        have : Lib.itoa n ≠ numTok (s.drop i) := by simpa [cmpS] using hne
        unfold pNum numOf
        simp only [hAo, if_neg this]
      · have hit : Lib.itoa n = numTok (s.drop i) := by simpa [cmpS] using heq
        have hof : numOf (numTok (s.drop i)) = some n := by unfold numOf; simp only [hAo, if_pos hit]
        refine ⟨fun hlo => ⟨fun _ => ⟨rfl, ?_, f28'⟩, fun e' => by cases e'⟩, fun hlo => ⟨fun hhi => ⟨rfl, ?_, f28'⟩, fun hhi => ⟨?_, f28', c28⟩⟩⟩
        · unfold pNum; rw [hof]; simp only; rw [if_neg (by omega)]
        · have hhi : n > hi := of_decide_eq_true hhi
          unfold pNum; rw [hof]; simp only; rw [if_neg (by omega)]
        · have hhi : ¬ n > hi := of_decide_eq_false hhi
          unfold pNum; rw [hof]; simp only; rw [if_pos (by omega), List.drop_drop, hjf]
end Go.Proofs.YtefbonjcpdjhcaaGreatDoor.X

/- Stage 2: the program's plain atoms. -/
set_option linter.unusedVariables false
namespace Go.Proofs.YtefbonjcpdjhcaaGreatDoor.X
open Go Go.RowKit

theorem F_text_small.ok (c : Int) (h : Hp) (X : Chain → Hp → Prop) : F_text_small.call c h (fun r h' => r = ((decide (c ≥ 97)) && (decide (c ≤ 122))) ∧ h' = h) X := by
  refine F_text_small.sound ?_
  exact ⟨rfl, rfl⟩
def small (c : UInt8) : Bool := decide (97 ≤ c.toNat) && decide (c.toNat ≤ 122)
def letter (c : UInt8) : Bool := small c || (decide (65 ≤ c.toNat) && decide (c.toNat ≤ 90)) || (decide (48 ≤ c.toNat) && decide (c.toNat ≤ 57)) || decide (c.toNat = 95) || decide (c.toNat = 64)
theorem small_int (c : UInt8) : ((decide ((c.toNat : Int) ≥ 97)) && (decide ((c.toNat : Int) ≤ 122))) = small c := by
  unfold small
  congr 1 <;> exact decide_eq_decide.2 (by omega)
theorem F_text_letter.ok (c : UInt8) (h : Hp) (X : Chain → Hp → Prop) : F_text_letter.call (c.toNat : Int) h (fun r h' => r = letter c ∧ h' = h) X := by
  refine F_text_letter.sound ?_
  unfold F_text_letter.body
  refine F_text_small.mono (F_text_small.ok _ _ _) ?_ fun _ _ h => h
  rintro r h' ⟨rfl, rfl⟩
  refine ⟨?_, rfl⟩
  rw [small_int]
  unfold letter
  have e1 : (((c.toNat : Int)) == 95) = decide (c.toNat = 95) := by rw [Bool.eq_iff_iff]; simp; omega
  have e2 : (((c.toNat : Int)) == 64) = decide (c.toNat = 64) := by rw [Bool.eq_iff_iff]; simp; omega
  have d1 : decide ((c.toNat : Int) ≥ 65) = decide (65 ≤ c.toNat) := decide_eq_decide.2 (by omega)
  have d2 : decide ((c.toNat : Int) ≤ 90) = decide (c.toNat ≤ 90) := decide_eq_decide.2 (by omega)
  have d3 : decide ((c.toNat : Int) ≥ 48) = decide (48 ≤ c.toNat) := decide_eq_decide.2 (by omega)
  have d4 : decide ((c.toNat : Int) ≤ 57) = decide (c.toNat ≤ 57) := decide_eq_decide.2 (by omega)
  rw [e1, e2, d1, d2, d3, d4]
theorem F_text_Plain_1.ok (c : UInt8) (h : Hp) (X : Chain → Hp → Prop) : F_text_Plain_1.call (c.toNat : Int) h (fun r h' => r = !letter c ∧ h' = h) X := by
  refine F_text_Plain_1.sound ?_
  unfold F_text_Plain_1.body
  refine F_text_letter.mono (F_text_letter.ok _ _ _) ?_ fun _ _ h => h
  rintro r h' ⟨rfl, rfl⟩
  exact ⟨rfl, rfl⟩
/-! ### Bytes -/
abbrev bc : UInt8 → List Value := fun b => [.int .u8 (b.toNat : Int)]
theorem bytesV_cells (s : Str) : bytesV s = cellsOf bc s := by
  unfold bytesV cellsOf
  induction s with
  | nil => rfl
  | cons b s ih => simp [ih]
theorem bc_len (b : UInt8) : (bc b).length = 1 := rfl
theorem bytes_hcells {h : Hp} {p c : Nat} {s : Str} (hb : h[p]? = some (bytesObj 5 s c)) : hcells h ⟨p, 0, none⟩ (cellsOf bc s) := by
  intro j v hj
  rw [add_zero_lit, hcell_of_block hb]
  rw [← bytesV_cells] at hj
  unfold bytesRow
  have hlt : j < s.length := by have := (List.getElem?_eq_some_iff.1 hj).1; simpa [bytesV] using this
  rw [Array.getElem?_append_left (by simpa [ba] using hlt)]
  unfold bytesV at hj
  simpa [ba] using hj
/-- []byte(s). -/
theorem BytesW.of {h : Hp} {s : Str} {K : Sl → Hp → Prop} (hh : ∀ p x h1, p = h.size → x.a = some ⟨p, 0, none⟩ → x.len = s.length → hcells h1 ⟨p, 0, none⟩ (cellsOf bc s) → RepS bc h1 (fun b => b = p) x s → Fr [] h h1 → p < h1.size → K x h1) : BytesW h 5 s K := by
  rintro p c h1 rfl hc _ e
  have hb := push_at (p := h.size) rfl e
  have hcs := bytes_hcells hb
  exact hh h.size _ h1 rfl rfl rfl hcs ⟨rfl, hc, fun _ => ⟨_, 0, rfl, rfl, hcs⟩⟩ (Fr.push e) (by rw [size_push e]; omega)

theorem IndexFunc_ok {h : Hp} {P : Nat → Prop} {x : Sl} {s : Str} {f : Value} {q : UInt8 → Bool} {X : Chain → Hp → Prop} (hx : RepS bc h P x s) (hl : Small s)
    (hf : ∀ c : UInt8, CallV Tryz.prog f [.int .u8 (c.toNat : Int)] h (fun v h' => v = .bool (q c) ∧ h' = h) X) :
    F_slices_IndexFunc_byte_byte.call x f h (fun r h' => (decide (r ≥ 0) = s.any q) ∧ h' = h) X := by
  refine F_slices_IndexFunc_byte_byte.sound ?_
  unfold F_slices_IndexFunc_byte_byte.body
  have hsm : s.length ≤ 1048576 := hl
  refine ⟨fun i h' => h' = h ∧ 0 ≤ i ∧ i ≤ s.length ∧ (s.take i.toNat).any q = false, fun i _ => s.length - i.toNat, ⟨rfl, by omega, by omega, by simp⟩, ?_⟩
  rintro i h2 ⟨rfl, hi0, hil, hno⟩
  have hxl := hx.1
  refine ⟨fun hlt => ?_, fun hge => ⟨?_, rfl⟩⟩
  · obtain ⟨j, rfl⟩ : ∃ j : Nat, i = j := ⟨i.toNat, by omega⟩
    have hjl : j < s.length := by omega
    obtain ⟨a, ha, hc⟩ := hx.get bc_len (i := j) (v := s[j]) (List.getElem?_eq_getElem hjl)
    refine IdxW.of (by omega) ha ⟨(s[j].toNat : Int), hc, ?_⟩
    refine CallV.mono (hf _) ?_ fun _ _ h => h
    rintro v h' ⟨rfl, rfl⟩
    refine ⟨_, rfl, fun hq => ⟨?_, rfl⟩, fun hq => ⟨⟨rfl, ?_, ?_, ?_⟩, ?_⟩⟩
    · have : s.any q = true := List.any_eq_true.2 ⟨s[j], List.getElem_mem hjl, hq⟩
      rw [this]; exact decide_eq_true (by omega)
    · rw [wrap64 (by omega) (by omega)]; omega
    · rw [wrap64 (by omega) (by omega)]; omega
    · rw [wrap64 (by omega) (by omega), show ((j : Int) + 1).toNat = j + 1 by omega, List.take_succ_eq_append_getElem hjl, List.any_append]
      simp only [Int.toNat_natCast] at hno
      rw [hno]; simp [hq]
    · show s.length - (IntKind.i64.wrap ((j : Int) + 1)).toNat < s.length - ((j : Int)).toNat
      rw [wrap64 (by omega) (by omega)]; omega
  · have : s.take i.toNat = s := List.take_of_length_le (by omega)
    rw [this] at hno
    rw [hno]; rfl

/-! ### Plain -/
def wordsText : Str := [32, 97, 102, 116, 101, 114, 32, 97, 110, 100, 32, 97, 110, 100, 97, 108, 115, 111, 32, 98, 101, 103, 105, 110, 32, 99, 97, 115, 101, 32, 99, 97, 116, 99, 104, 32, 100, 105, 118, 32, 101, 110, 100, 32, 102, 117, 110, 32, 110, 111, 116, 32, 111, 102, 32, 111, 114, 32, 111, 114, 101, 108, 115, 101, 32, 114, 101, 99, 101, 105, 118, 101, 32, 114, 101, 109, 32, 116, 114, 121, 32, 119, 104, 101, 110, 32]
def plain (s : Str) : Bool := !(s == []) && decide (s.length ≤ 64) && small (s.headD 0) && !(Lib.contains wordsText ([32] ++ s ++ [32])) && !(s.any fun c => !letter c)
theorem F_text_Plain.ok {h : Hp} {s : Str} (g : Gl h) (hl : Small s) (X : Chain → Hp → Prop) : F_text_Plain.call s h (fun r h' => r = plain s ∧ Fr [] h h') X := by
  refine F_text_Plain.sound ?_
  unfold F_text_Plain.body
  have hsm : s.length ≤ 1048576 := hl
  refine JoinW.inl ⟨fun hb => ?_, fun hb => ?_⟩
  · refine JoinW.inl ⟨fun _ => ⟨fun _ => ⟨?_, Fr.refl _ _⟩, fun e => by cases e⟩, fun e => by cases e⟩
    unfold plain
    simp only [cmpS, Bool.or_eq_true, decide_eq_true_eq] at hb
    rcases hb with hb | hb
    · simp [hb]
    · rw [show decide (s.length ≤ 64) = false from decide_eq_false (by omega)]; simp
  · simp only [cmpS, Bool.or_eq_false_iff, decide_eq_false_iff_not] at hb
    obtain ⟨hne, hle⟩ := hb
    obtain ⟨c, r, rfl⟩ : ∃ c r, s = c :: r := by
      cases s with
      | nil => simp at hne
      | cons c r => exact ⟨c, r, rfl⟩
    refine ⟨⟨by omega, by simp⟩, ?_⟩
    have hbt : bt (c :: r) 0 = (c.toNat : Int) := rfl
    rw [hbt]
    refine F_text_small.mono (F_text_small.ok _ _ _) ?_ fun _ _ h => h
    rintro r1 h' ⟨rfl, rfl⟩
    rw [small_int]
    refine JoinW.inl ⟨fun hs => ⟨fun _ => ⟨?_, Fr.refl _ _⟩, fun e => by cases e⟩, fun hs => ?_⟩
    · unfold plain
      have : small c = false := by simpa using hs
      simp [this]
    · have hsc : small c = true := by simpa using hs
      have hmx : maxLen = 9223372036854775807 := rfl
      refine ⟨by simp at hle ⊢; omega, by simp at hle ⊢; omega, ?_⟩
      refine F_strings_Contains.mono (contains_ok g (by simp) _) ?_ fun _ _ h => h
      rintro r2 h'' ⟨rfl, rfl⟩
      refine ⟨fun hc => ⟨?_, Fr.refl _ _⟩, fun hc => ⟨by omega, ?_⟩⟩
      · unfold plain
        have : Lib.contains wordsText ([32] ++ (c :: r) ++ [32]) = true := hc
        rw [this]; simp
      · refine BytesW.of fun p x h1 hp hxa hxl hcs hrep f1 _ => ?_
        refine F_slices_ContainsFunc_byte_byte.mono (K := fun r3 h' => r3 = (c :: r).any (fun c => !letter c) ∧ h' = h1) (X := X) ?_ ?_ fun _ _ h => h
        · refine F_slices_ContainsFunc_byte_byte.sound ?_
          unfold F_slices_ContainsFunc_byte_byte.body
          refine F_slices_IndexFunc_byte_byte.mono (IndexFunc_ok (q := fun c => !letter c) hrep hl fun d => CallV.func (hr := by intro _ _; kernel_rfl) ?_) ?_ fun _ _ h => h
          · refine CallH.mono (F_text_Plain_1.ok d h1 X) ?_ fun _ _ h => h
            rintro v h' ⟨_, rfl, rfl, rfl⟩
            exact ⟨rfl, rfl⟩
          · rintro r3 h' ⟨h4, rfl⟩
            exact ⟨h4, rfl⟩
        · rintro r3 h' ⟨rfl, rfl⟩
          refine ⟨?_, f1⟩
          unfold plain
          have h5 : Lib.contains wordsText ([32] ++ (c :: r) ++ [32]) = false := hc
          have h6 : decide ((c :: r).length ≤ 64) = true := decide_eq_true (by omega)
          have h7 : ((c :: r) == []) = false := rfl
          have h8 : small ((c :: r).headD 0) = true := hsc
          rw [h5, h6, h7, h8]
          simp
end Go.Proofs.YtefbonjcpdjhcaaGreatDoor.X

/- Stage 2: the program's reader: plain atoms, the bytes of quoted ones. -/
set_option linter.unusedVariables false
namespace Go.Proofs.YtefbonjcpdjhcaaGreatDoor.X
open Go Go.RowKit

theorem Fr.ev {M O : List Nat} {h h1 h2 : Hp} (f : Fr M h h1) (e : Ev O h1 h2) (ho : ∀ x ∈ O, h.size ≤ x) : Fr M h h2 := f.trans e.fr fun x hx => .inr (ho x hx)
theorem one_ge {h : Hp} {p : Nat} (hp : h.size ≤ p) : ∀ x ∈ [p], h.size ≤ x := fun x hx => by simp at hx; omega
theorem one_ne {p q : Nat} (h : p ≠ q) : ∀ x ∈ [p], x ∉ [q] := fun x hx => by simp at hx ⊢; omega
theorem one_not {p q : Nat} (h : p ≠ q) : p ∉ [q] := by simpa using h
/-- An own box that is new is apart. -/
theorem New.ltAll {p : Nat} {h h1 h2 : Hp} {M : List Nat} (n : New p h h1) (f : Fr M h1 h2) : LtAll [p] h2 := fun x hx => by
  simp at hx; subst hx; exact Nat.lt_of_lt_of_le n.2 f.1

def pPlain (r : Str) : Option (Tm × Str) :=
  if plain (r.takeWhile letter) then some (.mk 2 0 (r.takeWhile letter) [], r.drop (r.takeWhile letter).length) else none
theorem cursor_plain_ok {h : Hp} {p : Nat} {s : Str} {i : Nat} (g : Gl h) (hp8 : 8 ≤ p) (c : Cur h p s i) (hs : Small s) :
    F_text_cursor_plain.call (some ⟨p, 0, none⟩) h (fun v h' => ∃ t r, pPlain (s.drop i) = some (t, r) ∧ RepT h' (fun b => h.size ≤ b) v t ∧ Fr [p] h h' ∧ ∃ j, Cur h' p s j ∧ s.drop j = r)
      (fun ch h' => ch = flt ∧ pPlain (s.drop i) = none ∧ Fr [p] h h') := by
  refine F_text_cursor_plain.sound ?_
  unfold F_text_cursor_plain.body
  have hi' := c.2
  have hsm : s.length ≤ 1048576 := hs
  have hplt := c.1.lt
  refine ⟨_, rfl, fun p1 h2 hn he => ?_⟩
  have hpp : p ≠ p1 := by have := hn.1; omega
  have f2 : Fr [p] h h2 := (Fr.refl _ h).ev he (one_ge hn.1)
  have c2 : Cur h2 p s i := c.fr he.fr (one_not hpp)
  refine ⟨(i : Int), c2.pos, ?_⟩
  generalize htk : (s.drop i).takeWhile letter = tk
  have htl : tk.length ≤ s.length - i := by rw [← htk]; have := takeWhile_le letter (s.drop i); simpa using this
  refine ⟨fun _ h' => ∃ j, i ≤ j ∧ j ≤ i + tk.length ∧ Fr [p] h2 h' ∧ Cur h' p s j, fun _ h' => s.length - posOf h' p, ⟨i, Nat.le_refl _, by omega, Fr.refl _ _, c2⟩, ?_⟩
  rintro _ h6 ⟨j, hj1, hj2, f6, c6⟩
  have hj := c6.2
  have htw : (s.drop j).takeWhile letter = tk.drop (j - i) := by
    rw [← htk] at hj2 ⊢
    have := takeWhile_drop letter (s.drop i) (j - i) (by omega)
    rwa [List.drop_drop, show i + (j - i) = j by omega] at this
  refine ⟨fun y h11 => h11 = h6 ∧ y = decide (j < i + tk.length), ⟨(j : Int), c6.pos, s, c6.str, fun hlt => ⟨⟨by omega, by omega⟩, fun hL => ?_⟩, fun hge => ⟨rfl, ?_⟩⟩, ?_⟩
  · have hlts : j < s.length := by omega
    obtain ⟨d, r', hd⟩ : ∃ d r', s.drop j = d :: r' := ⟨s[j], s.drop (j + 1), List.drop_eq_getElem_cons hlts⟩
    rw [bt_drop hd]
    refine F_text_letter.mono (F_text_letter.ok _ _ _) ?_ fun _ _ h => h
    rintro r16 h17 ⟨rfl, rfl⟩
    refine ⟨fun _ _ => rfl, rfl, ?_⟩
    rw [hd] at htw
    have hlen := congrArg List.length htw
    rw [List.length_drop] at hlen
    cases hl : letter d with
    | true => rw [List.takeWhile_cons_of_pos hl] at hlen; exact (decide_eq_true (by simp at hlen; omega)).symm
    | false => rw [List.takeWhile_cons_of_neg (by simp [hl])] at hlen; exact (decide_eq_false (by simp at hlen; omega)).symm
  · have : s.drop j = [] := drop_nil_iff.2 (by omega)
    rw [this] at htw
    have := congrArg List.length htw
    simp at this
    exact (decide_eq_false (by omega)).symm
  · rintro y h11 ⟨rfl, rfl⟩
    refine ⟨fun hl => ?_, fun hl => ?_⟩
    · have hlt2 : j < i + tk.length := of_decide_eq_true hl
      refine ⟨(j : Int), c6.pos, c6.st, fun h19 e => ?_⟩
      have hx := c6.set (j + 1) (by omega) (x := IntKind.i64.wrap ((j : Int) + 1)) (by rw [wrap64 (by omega) (by omega)]; omega) e
      refine ⟨hx.2.sameOn (hn.ltAll f6) (one_ne (Ne.symm hpp)), ⟨j + 1, by omega, by omega, f6.same hx.2, hx.1⟩, ?_⟩
      show s.length - posOf h19 p < s.length - posOf h11 p
      rw [hx.1.posOf, c6.posOf]; omega
    · have hjj : j = i + tk.length := by have := of_decide_eq_false hl; omega
      subst hjj
      refine ⟨s, c6.str, ((i + tk.length : Nat) : Int), c6.pos, ⟨by omega, by omega, by omega⟩, fun hL => ?_⟩
      have hsub : sub s (i : Int) ((i + tk.length : Nat) : Int) = tk := by
        unfold sub
        rw [show (((i + tk.length : Nat) : Int)).toNat = i + tk.length from rfl, show ((i : Int)).toNat = i from rfl, ← List.take_drop, ← htk]
        exact takeWhile_take _ _
      rw [hsub]
      have f6' : Fr [p] h h11 := f2.same f6
      have g6 : Gl h11 := g.fr f6' (by simpa using hp8)
      refine F_text_Plain.mono (F_text_Plain.ok g6 (by unfold Small; omega) _) ?_ fun _ _ h => h
      rintro r23 h24 ⟨rfl, f24⟩
      have f24' := f6'.step f24
      refine ⟨f24.sameOn hL (by simp), fun hpl h25 e25 => ?_, fun hpl => ⟨rfl, ?_, f24'⟩⟩
      · have f25 := f24'.ev e25 (one_ge hn.1)
        refine ⟨.mk 2 0 tk [], s.drop (i + tk.length), ?_, ⟨rfl, rfl, rfl, [], RepS.nil, trivial⟩, f25, i + tk.length, (c6.fr f24 (by simp)).fr e25.fr (one_not hpp), rfl⟩
        unfold pPlain
        rw [htk, if_pos hpl, List.drop_drop]
      · unfold pPlain
        rw [htk, hpl]
        rfl
end Go.Proofs.YtefbonjcpdjhcaaGreatDoor.X

/- Stage 2: the program's reader: the bytes of quoted atoms. -/
set_option linter.unusedVariables false
namespace Go.Proofs.YtefbonjcpdjhcaaGreatDoor.X
open Go Go.RowKit

def sixteen : Str := [48, 49, 50, 51, 52, 53, 54, 55, 56, 57, 97, 98, 99, 100, 101, 102]
theorem indexByte_range (c : UInt8) : ∀ l : Str, Lib.indexByte l c = -1 ∨ (0 ≤ Lib.indexByte l c ∧ Lib.indexByte l c < l.length)
  | [] => .inl rfl
  | b :: l => by
    have ih := indexByte_range c l
    unfold Lib.indexByte
    split
    · right; simp
    · split
      · left; rfl
      · rename_i h
        right
        have h' : Lib.indexByte l c ≠ -1 := by simpa using h
        rcases ih with ih | ih
        · exact absurd ih h'
        · simp; omega
def hexi (c : UInt8) : Int := Lib.indexByte sixteen c
theorem hexi_range (c : UInt8) : hexi c = -1 ∨ (0 ≤ hexi c ∧ hexi c < 16) := indexByte_range c sixteen
def hexByte (a b : Int) : UInt8 := UInt8.ofNat (a.toNat * 16 + b.toNat)
theorem hexByte_val : ∀ a b : Fin 16, IntKind.u8.wrap (bitOr .i64 (IntKind.i64.wrap ((a.val : Int) * 2 ^ 4)) (b.val : Int)) = ((hexByte (a.val : Int) (b.val : Int)).toNat : Int) := by decide
theorem hexByte_int {a b : Int} (ha : 0 ≤ a) (ha' : a < 16) (hb : 0 ≤ b) (hb' : b < 16) : IntKind.u8.wrap (bitOr .i64 (IntKind.i64.wrap (a * 2 ^ 4)) b) = ((hexByte a b).toNat : Int) := by
  have := hexByte_val ⟨a.toNat, by omega⟩ ⟨b.toNat, by omega⟩
  simp only [Int.toNat_of_nonneg ha, Int.toNat_of_nonneg hb] at this
  exact this
/-- Behind a backslash and an x. -/
def hexStep : Str → Option (Option UInt8 × Str)
  | a :: b :: r2 => if hexi a < 0 ∨ hexi b < 0 then none else some (some (hexByte (hexi a) (hexi b)), r2)
  | _ => none
/-- Behind a backslash. -/
def escStep : Str → Option (Option UInt8 × Str)
  | [] => none
  | d :: r1 => if d = 39 then some (some 39, r1) else if d = 92 then some (some 92, r1) else if d = 120 then hexStep r1 else none
/-- One byte of a quoted atom: none: there is none; some none: it ends. -/
def byteStep : Str → Option (Option UInt8 × Str)
  | [] => none
  | c :: r => if c = 39 then some (none, r) else if c = 92 then escStep r else some (some c, r)
def StepOk (x : Int) (more : Bool) : Option UInt8 → Prop
  | none => more = false
  | some b => more = true ∧ x = (b.toNat : Int)
theorem drop_add {s r : Str} {i : Nat} {c : UInt8} (h : s.drop i = c :: r) : s.drop (i + 1) = r := drop_succ_of h
theorem u8_int (c d : UInt8) : (((c.toNat : Int)) == (d.toNat : Int)) = decide (c = d) := by
  rw [Bool.eq_iff_iff]
  simp only [beq_iff_eq, decide_eq_true_eq]
  constructor
  · intro h; exact UInt8.toNat_inj.1 (by omega)
  · rintro rfl; rfl
theorem prefix_one (c : UInt8) (l : Str) : ([c] : Str).isPrefixOf l = match l with | [] => false | d :: _ => decide (c = d) := by
  cases l with
  | nil => rfl
  | cons d l => simp [List.isPrefixOf]; rw [Bool.eq_iff_iff]; simp
theorem cursor_byteOf_ok {h : Hp} {p : Nat} {s : Str} {i : Nat} (c : Cur h p s i) (hs : Small s) :
    F_text_cursor_byteOf.call (some ⟨p, 0, none⟩) h (fun x more h' => ∃ ob r, byteStep (s.drop i) = some (ob, r) ∧ StepOk x more ob ∧ Fr [p] h h' ∧ ∃ j, i < j ∧ Cur h' p s j ∧ s.drop j = r)
      (fun ch h' => ch = flt ∧ byteStep (s.drop i) = none ∧ Fr [p] h h') := by
  refine F_text_cursor_byteOf.sound ?_
  unfold F_text_cursor_byteOf.body
  have hi' := c.2
  have hsm : s.length ≤ 1048576 := hs
  refine ⟨_, rfl, (i : Int), c.pos, s, c.str, fun hge => ⟨rfl, ?_, Fr.refl _ _⟩, fun hlt => ⟨⟨by omega, by omega⟩, ?_⟩⟩
  · rw [drop_nil_iff.2 (by omega)]; rfl
  · have hlts : i < s.length := by omega
    obtain ⟨d, r, hd⟩ : ∃ d r, s.drop i = d :: r := ⟨s[i], s.drop (i + 1), List.drop_eq_getElem_cons hlts⟩
    rintro x hx
    rw [bt_drop hd] at hx
    subst hx
    have hr := drop_add hd
    refine ⟨c.st, fun h6 e6 => ?_⟩
    obtain ⟨c6, f6⟩ := c.set (i + 1) (by omega) (x := IntKind.i64.wrap ((i : Int) + 1)) (by rw [wrap64 (by omega) (by omega)]; omega) e6
    rw [hd]
    have e39 : (((d.toNat : Int)) == 39) = decide (d = 39) := u8_int d 39
    have e92 : (((d.toNat : Int)) != 92) = !decide (d = 92) := by rw [← u8_int d 92]; rfl
    rw [e39, e92]
    refine ⟨fun h39 => ?_, fun h39 => ⟨fun h92 => ?_, fun h92 => ?_⟩⟩
    · have h39 : d = 39 := of_decide_eq_true h39
      exact ⟨none, r, by simp [byteStep, h39], rfl, f6, i + 1, by omega, c6, hr⟩
    · have h39 : ¬ d = 39 := of_decide_eq_false h39
      have h92 : ¬ d = 92 := by simpa using h92
      exact ⟨some d, r, by simp [byteStep, h39, h92], ⟨rfl, rfl⟩, f6, i + 1, by omega, c6, hr⟩
    · have h39 : ¬ d = 39 := of_decide_eq_false h39
      have h92 : d = 92 := by simpa using h92
      have hbs : byteStep (d :: r) = escStep r := by subst h92; rfl
      rw [hbs]
      refine F_text_cursor_is.mono (cursor_is_ok c6 hs _) ?_ fun _ _ h => h
      rintro r7 h8 ⟨hr7, f8, c8⟩
      rw [hr, prefix_one] at hr7
      have f8' := f6.same f8
      refine ⟨fun ht => ?_, fun hf => ?_⟩
      · subst ht
        cases r with
        | nil => cases hr7
        | cons d1 r1 =>
          have : d1 = 39 := (of_decide_eq_true hr7.symm).symm
          exact ⟨some 39, r1, by simp [escStep, this], ⟨rfl, rfl⟩, f8', i + 1 + 1, by omega, by simpa using c8, drop_add hr⟩
      · subst hf
        simp only [Bool.false_eq_true, if_false] at c8
        refine F_text_cursor_is.mono (cursor_is_ok c8 hs _) ?_ fun _ _ h => h
        rintro r9 h10 ⟨hr9, f10, c10⟩
        rw [hr, prefix_one] at hr9
        have f10' := f8'.same f10
        refine ⟨fun ht => ?_, fun hf => ?_⟩
        · subst ht
          cases r with
          | nil => cases hr9
          | cons d1 r1 =>
            have : d1 = 92 := (of_decide_eq_true hr9.symm).symm
            exact ⟨some 92, r1, by simp [escStep, this], ⟨rfl, rfl⟩, f10', i + 1 + 1, by omega, by simpa using c10, drop_add hr⟩
        · subst hf
          simp only [Bool.false_eq_true, if_false] at c10
          refine F_text_cursor_must.mono (cursor_must_ok c10 hs) ?_ ?_
          · rintro h11 ⟨hp, f11, c11⟩
            have f11' := f10'.same f11
            rw [hr, prefix_one] at hp
            cases r with
            | nil => cases hp
            | cons d1 r1 =>
              have hd1 : d1 = 120 := (of_decide_eq_true hp).symm
              subst hd1
              have hr1 := drop_add hr
              have hl11 := c11.2
              simp only [List.length_cons, List.length_nil] at c11 hl11
              have hbs2 : escStep (120 :: r1) = hexStep r1 := rfl
              rw [hbs2]
              refine ⟨((i + 1 + 1 : Nat) : Int), c11.pos, s, c11.str, ?_, ?_⟩
              · rw [wrap64 (by omega) (by omega)]
                intro hgt
                refine ⟨rfl, ?_, f11'⟩
                have hlen : r1.length < 2 := by rw [← hr1, List.length_drop]; omega
                match r1, hlen with
                | [], _ => rfl
                | [_], _ => rfl
              · rw [wrap64 (by omega) (by omega)]
                intro hle
                have hlen : 2 ≤ r1.length := by rw [← hr1, List.length_drop]; omega
                match r1, hlen, hr1 with
                | a :: b :: r2, _, hr1 =>
                  have hr2 := drop_add hr1
                  rw [wrap64 (by omega) (by omega)]
                  refine ⟨⟨by omega, by omega⟩, ⟨by omega, by omega⟩, ?_⟩
                  rw [bt_drop hr1, show (((i + 1 + 1 : Nat) : Int) + 1) = ((i + 1 + 1 + 1 : Nat) : Int) by omega, bt_drop hr2]
                  refine F_strings_IndexByte.mono (indexByte_ok _ _ _ _) ?_ fun _ _ h => h
                  rintro r16 h17 ⟨rfl, rfl⟩
                  refine ⟨c11.pos, c11.str, ?_⟩
                  refine F_strings_IndexByte.mono (indexByte_ok _ _ _ _) ?_ fun _ _ h => h
                  rintro r20 h21 ⟨rfl, rfl⟩
                  have ea : Lib.indexByte [48, 49, 50, 51, 52, 53, 54, 55, 56, 57, 97, 98, 99, 100, 101, 102] ((a.toNat : Int)).toNat.toUInt8 = hexi a := by simp [hexi, sixteen]
                  have eb : Lib.indexByte [48, 49, 50, 51, 52, 53, 54, 55, 56, 57, 97, 98, 99, 100, 101, 102] ((b.toNat : Int)).toNat.toUInt8 = hexi b := by simp [hexi, sixteen]
                  rw [ea, eb]
                  have hx2 : hexStep (a :: b :: r2) = if hexi a < 0 ∨ hexi b < 0 then none else some (some (hexByte (hexi a) (hexi b)), r2) := rfl
                  rw [hx2]
                  refine ⟨fun hneg => ⟨rfl, ?_, f11'⟩, fun hpos => ?_⟩
                  · rw [if_pos (by simpa using hneg)]
                  · have hpos' : ¬ (hexi a < 0 ∨ hexi b < 0) := by simpa using hpos
                    have ra := hexi_range a
                    have rb := hexi_range b
                    rw [if_neg hpos']
                    refine ⟨((i + 1 + 1 : Nat) : Int), c11.pos, c11.st, fun h24 e24 => ?_⟩
                    obtain ⟨c24, f24⟩ := c11.set (i + 1 + 1 + 2) (by omega) (x := IntKind.i64.wrap (((i + 1 + 1 : Nat) : Int) + 2)) (by rw [wrap64 (by omega) (by omega)]; omega) e24
                    rintro y rfl
                    refine ⟨_, r2, rfl, ⟨rfl, hexByte_int (by omega) (by omega) (by omega) (by omega)⟩, f11'.same f24, i + 1 + 1 + 2, by omega, c24, ?_⟩
                    rw [show i + 1 + 1 + 2 = i + 1 + 1 + 1 + 1 by omega]
                    exact drop_add hr2
          · rintro ch h11 ⟨rfl, hp, f11⟩
            refine ⟨rfl, ?_, f10'.same f11⟩
            rw [hr, prefix_one] at hp
            cases r with
            | nil => rfl
            | cons d1 r1 =>
              have h1 : ¬ d1 = 39 := fun e => of_decide_eq_false hr7.symm e.symm
              have h2 : ¬ d1 = 92 := fun e => of_decide_eq_false hr9.symm e.symm
              have h3 : ¬ d1 = 120 := fun e => of_decide_eq_false hp e.symm
              simp [escStep, h1, h2, h3]
end Go.Proofs.YtefbonjcpdjhcaaGreatDoor.X

/- Stage 2: strings.Builder. -/
set_option linter.unusedVariables false
set_option maxRecDepth 100000
namespace Go.Proofs.YtefbonjcpdjhcaaGreatDoor.X
open Go Go.RowKit

theorem shape_of {w : World} {p : Nat} {cs : List Value} {ty : TypeId} (hb : w.heap[p]? = some (.cells cs.toArray ty (0, 0))) : w.shape? p = some (ty, cs.length) := by
  simp [World.shape?, hb]
theorem copyCheck_ok {h : Hp} {p : Nat} {q : Option Addr} {x : Sl} (hb : Blk h p [.pointer q, sl x] 73) (hq : q = none ∨ q = some ⟨p, 0, none⟩) (X : Chain → Hp → Prop) :
    F_strings_Builder_copyCheck.call (some ⟨p, 0, none⟩) h (fun h' => Fr [p] h h' ∧ Blk h' p [.pointer (some ⟨p, 0, none⟩), sl x] 73) X := by
  refine CallH.of Tryz.func60 rfl rfl fun w0 hw0 => ?_
  obtain ⟨j, hj, hjs⟩ := Option.map_eq_some_iff.1 (show (Tryz.prog.info? 73).map (·.size) = some 2 by kernel_rfl)
  refine JC.seq ?_
  refine JC.region ?_
  refine JO.p 3 [(4, .pointer (some ((⟨p, 0, none⟩ : Addr).add 0)))] ?_
  refine JO.y 3 (Yld.le (hb.cells (vs := [.pointer q]) 0 rfl)) ?_
  rcases hq with rfl | rfl
  · refine JO.p 5 [(6, .bool true)] ?_
    refine JO.end_ ?_
    refine JC.next ?_
    refine JC.cd true (fun _ => ?_) (fun e => by cases e)
    refine JC.region ?_
    refine JO.p 2 [(7, .pointer (some ⟨p, 0, none⟩)), (8, .pointer (some ⟨p, 0, none⟩))] ?_
    refine JO.y 2 (v := .pointer (some ⟨p, 0, none⟩)) ?_ ?_
    · intro ds n a w ha hw
      rw [ha.exec (by kernel_rfl)]
      have hsh := shape_of (w := w) (by rw [show w.heap = h from hw]; exact hb)
      have := Lib.run_to_unsafe (P := Tryz.prog) (src := 70) (dst := 121) (t := 73) (j := j) w ⟨p, 0, none⟩ (by kernel_rfl) (by kernel_rfl) hj (by rw [hjs]; decide) hsh (by simp)
      show ((do pure (Next.value (← convert 70 121 (.pointer (some ⟨p, 0, none⟩)))) : Sem Next)).run Tryz.prog w = _
      exact run_v this
    refine JO.y 3 (v := .pointer (some ⟨p, 0, none⟩)) ?_ ?_
    · refine Yld.runs_ (by kernel_rfl) fun w => ?_
      kernel_rfl
    refine JO.y 4 (v := .pointer (some ⟨p, 0, none⟩)) ?_ ?_
    · intro ds n a w ha hw
      rw [ha.exec (by kernel_rfl)]
      have hsh := shape_of (w := w) (by rw [show w.heap = h from hw]; exact hb)
      have := Lib.run_from_unsafe (P := Tryz.prog) (src := 121) (dst := 70) (u := 73) (j := j) w ⟨p, 0, none⟩ (by kernel_rfl) (by kernel_rfl) hj hsh (by kernel_rfl)
      show ((do pure (Next.value (← convert 121 70 (.pointer (some ⟨p, 0, none⟩)))) : Sem Next)).run Tryz.prog w = _
      exact run_v this
    refine JO.p 7 [(13, .pointer (some ((⟨p, 0, none⟩ : Addr).add 0))), (11, .pointer (some ⟨p, 0, none⟩))] ?_
    refine JO.s 7 (OpOk.st [.pointer (some ⟨p, 0, none⟩)] (hb.storable 0 1 (by simp)) ?_)
    intro h1 e
    refine JO.end_ ?_
    have f := Fr.sets e
    rw [add_block] at f
    exact JK.ret0 rfl ⟨by kernel_rfl, f, hb.set (off := 0) (vs := [.pointer (some ⟨p, 0, none⟩)]) (by simp) e⟩
  · refine JO.p 5 [(6, .bool false)] ?_
    refine JO.end_ ?_
    refine JC.next ?_
    refine JC.cd false (fun e => by cases e) (fun _ => ?_)
    refine JC.seq ?_
    refine JC.region ?_
    refine JO.p 3 [(16, .pointer (some ((⟨p, 0, none⟩ : Addr).add 0)))] ?_
    refine JO.y 3 (Yld.le (hb.cells (vs := [.pointer (some ⟨p, 0, none⟩)]) 0 rfl)) ?_
    refine JO.p 5 [(18, .pointer (some ⟨p, 0, none⟩))] ?_
    refine JO.y 5 (v := .bool false) ?_ ?_
    · refine Yld.runs_ (by kernel_rfl) fun w => ?_
      have := Lib.run_neq_ptr_same (P := Tryz.prog) (tp := 70) (te := 73) (j := j) w ⟨p, 0, none⟩ (by kernel_rfl) hj
      show ((do pure (Next.value (← (do eqGuard .neq 70 _ _ (.pointer (some ⟨p, 0, none⟩)) (.pointer (some ⟨p, 0, none⟩)); binOp .neq 70 (.pointer (some ⟨p, 0, none⟩)) (.pointer (some ⟨p, 0, none⟩)))))) : Sem Next).run Tryz.prog w = _
      refine run_v ?_
      rw [Sem.run_bind]
      exact this
    refine JO.end_ ?_
    refine JC.next ?_
    refine JC.cd false (fun e => by cases e) (fun _ => ?_)
    refine JC.skip ?_
    exact JK.ret0 rfl ⟨by kernel_rfl, Fr.refl _ _, hb⟩

/-! ### The builder -/
/-- A builder in block p holds the bytes bs; O: its row. -/
def Bld (h : Hp) (p : Nat) (bs : Str) (O : List Nat) : Prop :=
  O.length ≤ 1 ∧ p ∉ O ∧ ∃ q x, (q = none ∨ q = some ⟨p, 0, none⟩) ∧ Blk h p [.pointer q, sl x] 73 ∧ SlG bc 1 5 h x bs O
theorem Bld.fr {h h' : Hp} {p : Nat} {bs : Str} {O M : List Nat} (b : Bld h p bs O) (f : Fr M h h') (hp : p ∉ M) (hO : ∀ y ∈ O, y ∉ M) : Bld h' p bs O := by
  obtain ⟨h1, h2, q, x, h3, h4, h5⟩ := b
  exact ⟨h1, h2, q, x, h3, h4.fr f hp, h5.fr f hO⟩
theorem Bld.new {h h1 : Hp} {p : Nat} (hp : p = h.size) (e : h1 = h.push (.cells #[.pointer none, sl ⟨none, 0, 0⟩] 73)) : Bld h1 p [] [] :=
  ⟨by simp, by simp, none, ⟨none, 0, 0⟩, .inl rfl, Blk.new (cs := [.pointer none, sl ⟨none, 0, 0⟩]) hp e, rfl, rfl⟩
theorem Bld.lt {h : Hp} {p : Nat} {bs : Str} {O : List Nat} (b : Bld h p bs O) : p < h.size := by
  obtain ⟨_, _, _, _, _, h4, _⟩ := b
  exact h4.lt
theorem Bld.ltO {h : Hp} {p : Nat} {bs : Str} {O : List Nat} (b : Bld h p bs O) : ∀ y ∈ O, y < h.size := by
  obtain ⟨h1, _, _, _, _, _, h5⟩ := b
  intro y hy
  cases O with
  | nil => cases hy
  | cons z O =>
    obtain rfl : O = [] := by simpa using h1
    simp at hy
    subst hy
    exact h5.lt
/-- What a write does. -/
def Wrote (p : Nat) (bs : Str) (O : List Nat) (h h' : Hp) : Prop := ∃ O', Bld h' p bs O' ∧ Fr (p :: O) h h' ∧ ∀ y ∈ O', y ∈ O ∨ h.size ≤ y
theorem WriteString_ok {h : Hp} {p : Nat} {bs s : Str} {O : List Nat} (b : Bld h p bs O) (hl : bs.length + s.length ≤ 140737488355328) (X : Chain → Hp → Prop) :
    F_strings_Builder_WriteString.call (some ⟨p, 0, none⟩) s h (fun _ _ h' => Wrote p (bs ++ s) O h h') X := by
  refine F_strings_Builder_WriteString.sound ?_
  unfold F_strings_Builder_WriteString.body
  obtain ⟨hO, hpO, q, x, hq, hb, hx⟩ := b
  refine F_strings_Builder_copyCheck.mono (copyCheck_ok hb hq _) ?_ fun _ _ h => h
  rintro h1 ⟨f1, hb1⟩
  have hx1 := hx.fr f1 (fun y hy => by simp; rintro rfl; exact hpO hy)
  refine ⟨_, rfl, x, hb1.cells 1 rfl, cellsOf bc bs, ?_⟩
  have key : AppendW h1 5 1 1 [.int .u8 0] x s.length (cellsOf bc bs) (cellsOf bc s) (fun (s4 : Sl) (h5 : Hp) => StoreW h5 ((⟨p, 0, none⟩ : Addr).add 1) [sl s4] (fun (h6 : Hp) => ∀ (x7 : Int), x7 = (s.length : Int) → Wrote p (bs ++ s) O h h6)) := by
    refine AppendW.own bc_len hO hx1 (by omega) (by omega) rfl ?_
    intro x' h5 O' hx5 hO' f5 hsub
    have hb5 := hb1.fr f5 hpO
    have hpO' : p ∉ O' := fun hm => by
      rcases hsub p hm with h' | h'
      · exact hpO h'
      · have := hb1.lt; omega
    refine ⟨hb5.storable 1 1 (by simp), fun h6 e6 _ _ => ⟨O', ?_⟩⟩
    have f6 := Fr.sets e6
    rw [add_block] at f6
    refine ⟨⟨hO', hpO', some ⟨p, 0, none⟩, x', .inr rfl, hb5.set (off := 1) (vs := [sl x']) (by simp) e6, hx5.fr f6 (fun y hy => by simp; rintro rfl; exact hpO' hy)⟩, ?_, ?_⟩
    · refine ((f1.sub (M' := p :: O) (fun y hy => .inl (by simp at hy; simp [hy]))).trans f5 (fun y hy => .inl (List.mem_cons_of_mem _ hy))).trans f6 (fun y hy => .inl (by simp at hy; simp [hy]))
    · intro y hy
      rcases hsub y hy with h' | h'
      · exact .inl h'
      · exact .inr (Nat.le_trans f1.1 h')
  rw [show cellsOf bc s = s.map fun b => Value.int .u8 b.toNat from (bytesV_cells s).symm] at key
  exact key
theorem WriteByte_ok {h : Hp} {p : Nat} {bs : Str} {c : UInt8} {O : List Nat} (b : Bld h p bs O) (hl : bs.length + 1 ≤ 140737488355328) (X : Chain → Hp → Prop) :
    F_strings_Builder_WriteByte.call (some ⟨p, 0, none⟩) (c.toNat : Int) h (fun _ h' => Wrote p (bs ++ [c]) O h h') X := by
  refine F_strings_Builder_WriteByte.sound ?_
  unfold F_strings_Builder_WriteByte.body
  obtain ⟨hO, hpO, q, x, hq, hb, hx⟩ := b
  refine F_strings_Builder_copyCheck.mono (copyCheck_ok hb hq _) ?_ fun _ _ h => h
  rintro h1 ⟨f1, hb1⟩
  have hx1 := hx.fr f1 (fun y hy => by simp; rintro rfl; exact hpO hy)
  refine ⟨_, rfl, x, hb1.cells 1 rfl, fun p4 h5 hp4 e5 => ?_⟩
  have f5 := Fr.push e5
  have hb5 := hb1.fr f5 (by simp)
  have hx5 := hx1.fr f5 (by simp)
  refine AppW.one (v := c) bc_len (fun v u hu => by simp at hu; subst hu; rfl) hO hx5 (Blk.new hp4 e5) (by omega) (by omega) rfl ?_
  intro x' h7 O' hx7 hO' f7 hsub
  have hb7 := hb5.fr f7 hpO
  have hpO' : p ∉ O' := fun hm => by
    rcases hsub p hm with h' | h'
    · exact hpO h'
    · have := hb5.lt; omega
  refine ⟨hb7.storable 1 1 (by simp), fun h8 e8 => ⟨O', ?_⟩⟩
  have f8 := Fr.sets e8
  rw [add_block] at f8
  refine ⟨⟨hO', hpO', some ⟨p, 0, none⟩, x', .inr rfl, hb7.set (off := 1) (vs := [sl x']) (by simp) e8, hx7.fr f8 (fun y hy => by simp; rintro rfl; exact hpO' hy)⟩, ?_, ?_⟩
  · exact (((f1.sub (M' := p :: O) (fun y hy => .inl (by simp at hy; simp [hy]))).step f5).trans f7 (fun y hy => .inl (List.mem_cons_of_mem _ hy))).trans f8 (fun y hy => .inl (by simp at hy; simp [hy]))
  · intro y hy
    rcases hsub y hy with h' | h'
    · exact .inl h'
    · have := f1.1; have := f5.1; exact .inr (by omega)
/-- String(): the text; the builder is done with. -/
theorem String_ok {h : Hp} {p : Nat} {bs : Str} {O : List Nat} (b : Bld h p bs O) (X : Chain → Hp → Prop) :
    F_strings_Builder_String.call (some ⟨p, 0, none⟩) h (fun r h' => r = bs ∧ h.size ≤ h'.size ∧ ∀ k, k < p → (∀ y ∈ O, k < y) → h'[k]? = h[k]?) X :=
  CallH.of_calls fun w hw => by
    subst hw
    obtain ⟨hO, hpO, q, x, hq, hb, hx⟩ := b
    obtain ⟨B, hB1, hB2, hB3⟩ : ∃ B, B ≤ p ∧ (∀ y ∈ O, B ≤ y) ∧ ∀ k, k < p → (∀ y ∈ O, k < y) → k < B := by
      cases O with
      | nil => exact ⟨p, Nat.le_refl _, by simp, fun k hk _ => hk⟩
      | cons y O =>
        obtain rfl : O = [] := by simpa using hO
        exact ⟨min p y, Nat.min_le_left _ _, by simp; exact Nat.min_le_right _ _, fun k hk hy => by have := hy y (by simp); omega⟩
    have hplt := hb.lt
    have hown : w.ownsRow B 5 1 (sl x) (Lib.byteCells bs).length (Lib.byteCells bs) := by
      refine ⟨by simp, ?_⟩
      cases O with
      | nil => obtain ⟨rfl, rfl⟩ := hx; exact .inl ⟨rfl, rfl⟩
      | cons y O =>
        obtain ⟨h1, h2, h3, rest, h4, h5⟩ := hx
        have hbc : cellsOf bc bs = Lib.byteCells bs := (bytesV_cells bs).symm
        refine .inr ⟨y, x.cap, (cellsOf bc bs ++ rest).toArray, by rw [Lib.byteCells_length, sl, h3, h1], hB2 y (by simp), h5, by rw [Lib.byteCells_length]; omega, h2.2, ?_, ?_⟩
        · simp only [List.size_toArray, List.length_append, h4, cellsOf_len bc_len]; omega
        · rw [hbc]; simp
    have hne : (sl x).ownBlock ≠ some p := by
      cases O with
      | nil => obtain ⟨rfl, rfl⟩ := hx; simp [Value.ownBlock]
      | cons y O =>
        obtain ⟨_, _, h3, _⟩ := hx
        simp only [sl, h3, Value.ownBlock]
        intro e
        injection e with e
        exact hpO (by rw [← e]; simp)
    have hat : Lib.IsBuilder 73 5 B p (Lib.byteCells bs) w := by
      rcases hq with rfl | rfl
      · exact .inl ⟨hB1, _, hb, hown, hne⟩
      · exact .inr ⟨hB1, _, hb, hown, hne⟩
    refine (Tryz.Builder_String_any B p bs w hat (by omega)).mono fun e w' ⟨he, hbel⟩ => ?_
    subst he
    exact ⟨_, rfl, Wd.of_below hbel, bs, rfl, rfl, hbel.size, fun k hk hy => hbel.block k (hB3 k hk hy)⟩
end Go.Proofs.YtefbonjcpdjhcaaGreatDoor.X

/- Stage 2: the program's quoted atoms. -/
set_option linter.unusedVariables false
namespace Go.Proofs.YtefbonjcpdjhcaaGreatDoor.X
open Go Go.RowKit

def hexOf (n : Nat) : UInt8 := sixteen.getD n 0
/-- How a byte stands in a quoted atom. -/
def qbyte (c : UInt8) : Str :=
  if c = 39 ∨ c = 92 then [92, c]
  else if c.toNat < 32 ∨ 126 < c.toNat then [92, 120, hexOf (c.toNat / 16), hexOf (c.toNat % 16)]
  else [c]
def qbytes (s : Str) : Str := s.flatMap qbyte
def quote (s : Str) : Str := 39 :: (qbytes s ++ [39])
theorem qbyte_len (c : UInt8) : (qbyte c).length ≤ 4 := by
  unfold qbyte
  split
  · simp
  · split <;> simp
theorem qbytes_len : ∀ s : Str, (qbytes s).length ≤ 4 * s.length
  | [] => by simp [qbytes]
  | c :: s => by
    have := qbytes_len s
    have := qbyte_len c
    simp only [qbytes, List.flatMap_cons, List.length_append, List.length_cons] at *
    omega
theorem sub_hex : ∀ n : Fin 16, sub ([48, 49, 50, 51, 52, 53, 54, 55, 56, 57, 97, 98, 99, 100, 101, 102] : Str) (n.val : Int) (IntKind.u8.wrap ((n.val : Int) + 1)) = [hexOf n.val] := by decide +kernel
theorem and15 : ∀ n : Fin 256, bitAnd .u8 (n.val : Int) 15 = ((n.val % 16 : Nat) : Int) := by decide +kernel
theorem div16 (n : Nat) : ((n : Int)).fdiv (2 ^ 4) = ((n / 16 : Nat) : Int) := by
  rw [Int.fdiv_eq_ediv_of_nonneg _ (by decide)]
  rfl

/-! ### A builder that is written on, and what stays beside it -/
/-- L: the call's own blocks begin there; Q: further blocks that stay. -/
def BI (h : Hp) (p : Nat) (bs : Str) (L : Nat) (Q : Nat → Prop) : Prop :=
  ∃ O, Bld h p bs O ∧ L ≤ p ∧ (∀ y ∈ O, L ≤ y) ∧ L ≤ h.size ∧ ∀ b, Q b → b ∉ O ∧ b ≠ p ∧ b < h.size
def Kp (L : Nat) (Q : Nat → Prop) (h h' : Hp) : Prop := h.size ≤ h'.size ∧ ∀ b, b < L ∨ Q b → h'[b]? = h[b]?
theorem Kp.refl (L : Nat) (Q : Nat → Prop) (h : Hp) : Kp L Q h h := ⟨Nat.le_refl _, fun _ _ => rfl⟩
theorem Kp.trans {L : Nat} {Q : Nat → Prop} {h h1 h2 : Hp} (a : Kp L Q h h1) (b : Kp L Q h1 h2) : Kp L Q h h2 := ⟨Nat.le_trans a.1 b.1, fun x hx => by rw [b.2 x hx, a.2 x hx]⟩
theorem BI.wrote {h h' : Hp} {p : Nat} {bs' : Str} {L : Nat} {Q : Nat → Prop} {O : List Nat} (h1 : L ≤ p) (h2 : ∀ y ∈ O, L ≤ y) (h3 : L ≤ h.size) (h4 : ∀ b, Q b → b ∉ O ∧ b ≠ p ∧ b < h.size) (w : Wrote p bs' O h h') : BI h' p bs' L Q ∧ Kp L Q h h' := by
  obtain ⟨O', hb, f, hs⟩ := w
  have hle := f.1
  refine ⟨⟨O', hb, h1, fun y hy => ?_, by omega, fun b hq => ?_⟩, hle, fun b hb' => ?_⟩
  · rcases hs y hy with h' | h'
    · exact h2 y h'
    · omega
  · obtain ⟨q1, q2, q3⟩ := h4 b hq
    refine ⟨fun hm => ?_, q2, by omega⟩
    rcases hs b hm with h' | h'
    · exact q1 h'
    · omega
  · rcases hb' with hlt | hq
    · refine f.2 b (by omega) fun hm => ?_
      rcases List.mem_cons.1 hm with rfl | hm
      · omega
      · have := h2 b hm; omega
    · obtain ⟨q1, q2, q3⟩ := h4 b hq
      refine f.2 b q3 fun hm => ?_
      rcases List.mem_cons.1 hm with h' | hm
      · exact q2 h'
      · exact q1 hm
theorem BI.byte {h : Hp} {p : Nat} {bs : Str} {L : Nat} {Q : Nat → Prop} {c : UInt8} {x : Int} (b : BI h p bs L Q) (hx : x = (c.toNat : Int)) (hl : bs.length + 1 ≤ 140737488355328) (X : Chain → Hp → Prop) :
    F_strings_Builder_WriteByte.call (some ⟨p, 0, none⟩) x h (fun _ h' => BI h' p (bs ++ [c]) L Q ∧ Kp L Q h h') X := by
  subst hx
  obtain ⟨O, hb, h1, h2, h3, h4⟩ := b
  exact F_strings_Builder_WriteByte.mono (WriteByte_ok hb hl X) (fun _ h' w => BI.wrote h1 h2 h3 h4 w) fun _ _ h => h
theorem BI.str {h : Hp} {p : Nat} {bs s : Str} {L : Nat} {Q : Nat → Prop} (b : BI h p bs L Q) (hl : bs.length + s.length ≤ 140737488355328) (X : Chain → Hp → Prop) :
    F_strings_Builder_WriteString.call (some ⟨p, 0, none⟩) s h (fun _ _ h' => BI h' p (bs ++ s) L Q ∧ Kp L Q h h') X := by
  obtain ⟨O, hb, h1, h2, h3, h4⟩ := b
  exact F_strings_Builder_WriteString.mono (WriteString_ok hb hl X) (fun _ _ h' w => BI.wrote h1 h2 h3 h4 w) fun _ _ h => h
theorem BI.string {h : Hp} {p : Nat} {bs : Str} {L : Nat} {Q : Nat → Prop} (b : BI h p bs L Q) (X : Chain → Hp → Prop) :
    F_strings_Builder_String.call (some ⟨p, 0, none⟩) h (fun r h' => r = bs ∧ Kp L (fun _ => False) h h') X := by
  obtain ⟨O, hb, h1, h2, h3, h4⟩ := b
  refine F_strings_Builder_String.mono (String_ok hb X) ?_ fun _ _ h => h
  rintro r h' ⟨rfl, hs, hk⟩
  refine ⟨rfl, hs, fun b hb' => ?_⟩
  rcases hb' with hlt | hf
  · exact hk b (by omega) fun y hy => by have := h2 y hy; omega
  · exact hf.elim
theorem hcells.at_ {h h' : Hp} {a : Addr} {vs : List Value} (hc : hcells h a vs) (e : h'[a.block]? = h[a.block]?) : hcells h' a vs := by
  intro j v hj
  have := hc j v hj
  unfold hcell at this ⊢
  rw [add_block] at this ⊢
  rw [e]
  exact this

theorem F_text_quoted.ok {h : Hp} {s : Str} (hs : s.length ≤ 1048576) (X : Chain → Hp → Prop) : F_text_quoted.call s h (fun r h' => r = quote s ∧ Fr [] h h') X := by
  refine F_text_quoted.sound ?_
  unfold F_text_quoted.body
  intro p1 h2 hp1 e2
  have f2 := Fr.push e2
  have hsz2 := size_push e2
  have b2 : BI h2 p1 [] h.size (fun _ => False) := ⟨[], Bld.new hp1 e2, by omega, by simp, by omega, fun b hb => hb.elim⟩
  refine F_strings_Builder_WriteByte.mono (b2.byte (c := 39) rfl (by simp) _) ?_ fun _ _ h => h
  rintro _ h4 ⟨b4, k4⟩
  have hmx : maxLen = 9223372036854775807 := rfl
  refine ⟨by omega, BytesW.of fun pb x h6 hpb hxa hxl hcs hrep f6 hpl => ?_⟩
  have b6 : BI h6 p1 ([] ++ [39]) h.size (fun b => b = pb) := by
    obtain ⟨O, hb, q1, q2, q3, _⟩ := b4
    have hlt := hb.lt
    have hltO := hb.ltO
    refine ⟨O, hb.fr f6 (by simp) (by simp), q1, q2, by have := f6.1; omega, fun b hb' => ?_⟩
    subst hb'
    exact ⟨fun hm => by have := hltO _ hm; omega, by omega, hpl⟩
  have k6 : Kp h.size (fun _ => False) h h6 := by
    refine ⟨by have := f2.1; have := k4.1; have := f6.1; omega, fun b hb => ?_⟩
    rcases hb with hlt | hf
    · have := k4.1
      rw [f6.2 b (by omega) (by simp), k4.2 b (.inl hlt), f2.2 b hlt (by simp)]
    · exact hf.elim
  refine ⟨fun i h' => ∃ n : Nat, i = n ∧ n ≤ s.length ∧ BI h' p1 (39 :: qbytes (s.take n)) h.size (fun b => b = pb) ∧ Kp h.size (fun b => b = pb) h6 h', fun i _ => s.length - i.toNat, ⟨0, rfl, by omega, by simpa [qbytes] using b6, Kp.refl _ _ _⟩, ?_⟩
  rintro _ h9 ⟨n, rfl, hn, b9, k9⟩
  have hq : (qbytes (s.take n)).length ≤ 4 * s.length := by
    have := qbytes_len (s.take n)
    have h2 : (s.take n).length ≤ s.length := by simp; omega
    omega
  have hlen9 : (39 :: qbytes (s.take n)).length ≤ 4194305 := by simp; omega
  refine ⟨fun hlt => ?_, fun hge => ?_⟩
  · have hnl : n < s.length := by omega
    have hrep9 : RepS bc h9 (fun b => b = pb) x s := ⟨hrep.1, hrep.2.1, fun hv => by
      obtain ⟨b, off, q1, q2, q3⟩ := hrep.2.2 hv
      exact ⟨b, off, q1, q2, q3.at_ (k9.2 b (.inr q2))⟩⟩
    have htake : s.take (n + 1) = s.take n ++ [s[n]] := List.take_succ_eq_append_getElem hnl
    have hqn : 39 :: qbytes (s.take (n + 1)) = 39 :: qbytes (s.take n) ++ qbyte s[n] := by
      simp only [qbytes, htake, List.flatMap_append, List.flatMap_cons, List.flatMap_nil, List.append_nil, List.cons_append]
    refine ⟨fun _ h14 => BI h14 p1 (39 :: qbytes (s.take (n + 1))) h.size (fun b => b = pb) ∧ Kp h.size (fun b => b = pb) h6 h14, ?_, ?_⟩
    · obtain ⟨a, ha, hc⟩ := hrep9.get bc_len (i := n) (v := s[n]) (List.getElem?_eq_getElem hnl)
      generalize s[n] = c at hqn hc
      refine IdxW.of (by omega) ha ⟨(c.toNat : Int), hc, ?_⟩
      rw [hqn]
      dsimp only
      have e39 : (((c.toNat : Int)) == 39) = decide (c = 39) := u8_int c 39
      have e92 : (((c.toNat : Int)) == 92) = decide (c = 92) := u8_int c 92
      rw [e39, e92]
      refine ⟨fun hc1 => ?_, fun hc1 => ?_⟩
      · have hc1 : c = 39 ∨ c = 92 := by simpa using hc1
        have hqb : qbyte c = [92, c] := by unfold qbyte; rw [if_pos hc1]
        rw [hqb]
        refine F_strings_Builder_WriteByte.mono (b9.byte (c := 92) rfl (by omega) _) ?_ fun _ _ h => h
        rintro _ h20 ⟨b20, k20⟩
        refine F_strings_Builder_WriteByte.mono (b20.byte (c := c) rfl (by simp at hlen9 ⊢; omega) _) ?_ fun _ _ h => h
        rintro _ h22 ⟨b22, k22⟩
        exact ⟨by simpa using b22, (k9.trans k20).trans k22⟩
      · have hc1 : ¬ (c = 39 ∨ c = 92) := by simpa using hc1
        have e2 : ((decide ((c.toNat : Int) < 32)) || (decide ((c.toNat : Int) > 126))) = decide (c.toNat < 32 ∨ 126 < c.toNat) := by
          rw [Bool.eq_iff_iff]; simp; omega
        rw [e2]
        refine ⟨fun hc2 => ?_, fun hc2 => ?_⟩
        · have hc2 := of_decide_eq_true hc2
          have hqb : qbyte c = [92, 120, hexOf (c.toNat / 16), hexOf (c.toNat % 16)] := by unfold qbyte; rw [if_neg hc1, if_pos hc2]
          rw [hqb]
          have hcl : c.toNat < 256 := c.toNat_lt
          have h15 := and15 ⟨c.toNat, hcl⟩
          simp only at h15
          have s1 := sub_hex ⟨c.toNat / 16, by omega⟩
          have s2 := sub_hex ⟨c.toNat % 16, by omega⟩
          simp only at s1 s2
          rw [div16, h15]
          have w1 : IntKind.u8.wrap (((c.toNat / 16 : Nat) : Int) + 1) = ((c.toNat / 16 : Nat) : Int) + 1 := wrapu8 (by omega) (by omega)
          have w2 : IntKind.u8.wrap (((c.toNat % 16 : Nat) : Int) + 1) = ((c.toNat % 16 : Nat) : Int) + 1 := wrapu8 (by omega) (by omega)
          rw [s1, s2, w1, w2]
          refine ⟨⟨by omega, by omega, by simp; omega⟩, by simp; omega, ⟨by omega, by omega, by simp; omega⟩, by simp; omega, ?_⟩
          refine F_strings_Builder_WriteString.mono (b9.str (by simp at hlen9 ⊢; omega) _) ?_ fun _ _ h => h
          rintro _ _ h30 ⟨b30, k30⟩
          exact ⟨by simpa using b30, k9.trans k30⟩
        · have hc2 := of_decide_eq_false hc2
          have hqb : qbyte c = [c] := by unfold qbyte; rw [if_neg hc1, if_neg hc2]
          rw [hqb]
          refine F_strings_Builder_WriteByte.mono (b9.byte (c := c) rfl (by omega) _) ?_ fun _ _ h => h
          rintro _ h32 ⟨b32, k32⟩
          exact ⟨b32, k9.trans k32⟩
    · rintro _ h14 ⟨b14, k14⟩
      refine ⟨⟨n + 1, ?_, by omega, b14, k14⟩, ?_⟩
      · rw [wrap64 (by omega) (by omega)]; omega
      · show s.length - (IntKind.i64.wrap ((n : Int) + 1)).toNat < s.length - ((n : Int)).toNat
        rw [wrap64 (by omega) (by omega)]; omega
  · have hall : s.take n = s := List.take_of_length_le (by omega)
    rw [hall] at b9 hlen9
    refine F_strings_Builder_WriteByte.mono (b9.byte (c := 39) rfl (by omega) _) ?_ fun _ _ h => h
    rintro _ h34 ⟨b34, k34⟩
    refine F_strings_Builder_String.mono (b34.string _) ?_ fun _ _ h => h
    rintro r h36 ⟨rfl, k36⟩
    refine ⟨rfl, ?_, fun b hb _ => ?_⟩
    · have := k6.1; have := k9.1; have := k34.1; have := k36.1; omega
    · rw [k36.2 b (.inl hb), k34.2 b (.inl hb), k9.2 b (.inl hb), k6.2 b (.inl hb)]
end Go.Proofs.YtefbonjcpdjhcaaGreatDoor.X

/- Stage 2: the program's reader: quoted atoms. -/
set_option linter.unusedVariables false
namespace Go.Proofs.YtefbonjcpdjhcaaGreatDoor.X
open Go Go.RowKit

theorem hexStep_len {r r' : Str} {ob : Option UInt8} (h : hexStep r = some (ob, r')) : r'.length < r.length := by
  match r, h with
  | [], h => cases h
  | [_], h => cases h
  | a :: b :: r2, h =>
    rw [show hexStep (a :: b :: r2) = if hexi a < 0 ∨ hexi b < 0 then none else some (some (hexByte (hexi a) (hexi b)), r2) from rfl] at h
    split at h
    · cases h
    · injection h with h; injection h with _ h; subst h; simp; omega
theorem escStep_len {r r' : Str} {ob : Option UInt8} (h : escStep r = some (ob, r')) : r'.length < r.length := by
  cases r with
  | nil => cases h
  | cons d r1 =>
    rw [show escStep (d :: r1) = if d = 39 then some (some 39, r1) else if d = 92 then some (some 92, r1) else if d = 120 then hexStep r1 else none from rfl] at h
    split at h
    · injection h with h; injection h with _ h; subst h; simp
    · split at h
      · injection h with h; injection h with _ h; subst h; simp
      · split at h
        · have := hexStep_len h; simp; omega
        · cases h
theorem byteStep_len {r r' : Str} {ob : Option UInt8} (h : byteStep r = some (ob, r')) : r'.length < r.length := by
  cases r with
  | nil => cases h
  | cons c r =>
    rw [show byteStep (c :: r) = if c = 39 then some (none, r) else if c = 92 then escStep r else some (some c, r) from rfl] at h
    split at h
    · injection h with h; injection h with _ h; subst h; simp
    · split at h
      · have := escStep_len h; simp; omega
      · injection h with h; injection h with _ h; subst h; simp
/-- The bytes up to the closing quote. -/
def pBytes : Nat → Str → Option (Str × Str)
  | 0, _ => none
  | n + 1, r => match byteStep r with
    | none => none
    | some (none, r') => some ([], r')
    | some (some b, r') => (pBytes n r').map fun q => (b :: q.1, q.2)
def pQuoted (r : Str) : Option (Tm × Str) :=
  match pBytes (r.length + 1) r with
  | none => none
  | some (t, r') => if t.length ≤ 64 ∧ plain t = false ∧ quote t = 39 :: r.take (r.length - r'.length) then some (.mk 2 0 t [], r') else none
theorem SlG.slcells {T : Type} {c : T → List Value} {k ty : Nat} {h : Hp} {x : Sl} {vs : List T} {O : List Nat} (g : SlG c k ty h x vs O) : SlCells h x.a (cellsOf c vs) := by
  intro hne
  cases O with
  | nil => obtain ⟨rfl, rfl⟩ := g; exact absurd rfl hne
  | cons b O =>
    obtain ⟨_, _, h3, rest, _, h5⟩ := g
    exact ⟨_, h3, hcells_take (h5.cells0 (List.take_of_length_le (Nat.le_refl _)))⟩
theorem cursor_quoted_ok {h : Hp} {p : Nat} {s : Str} {i : Nat} (g : Gl h) (hp8 : 8 ≤ p) (c : Cur h p s i) (hs : Small s) (h1 : 1 ≤ i) (hq : s.drop (i - 1) = 39 :: s.drop i) :
    F_text_cursor_quoted.call (some ⟨p, 0, none⟩) h (fun v h' => ∃ t r, pQuoted (s.drop i) = some (t, r) ∧ RepT h' (fun b => h.size ≤ b) v t ∧ Fr [p] h h' ∧ ∃ j, Cur h' p s j ∧ s.drop j = r)
      (fun ch h' => ch = flt ∧ pQuoted (s.drop i) = none ∧ Fr [p] h h') := by
  refine F_text_cursor_quoted.sound ?_
  unfold F_text_cursor_quoted.body
  have hi' := c.2
  have hsm : s.length ≤ 1048576 := hs
  have hplt := c.1.lt
  refine ⟨_, rfl, fun p1 h2 hn he => ?_⟩
  have hpp : p ≠ p1 := by have := hn.1; omega
  have f2 : Fr [p] h h2 := (Fr.refl _ h).ev he (one_ge hn.1)
  have c2 : Cur h2 p s i := c.fr he.fr (one_not hpp)
  refine ⟨(i : Int), c2.pos, fun x5 hx5 => ?_⟩
  rw [wrap64 (by omega) (by omega)] at hx5
  subst hx5
  have hdl : (s.drop i).length = s.length - i := List.length_drop
  refine ⟨fun x h' => ∃ j acc O m, i ≤ j ∧ acc.length ≤ j - i ∧ Fr [p] h2 h' ∧ Cur h' p s j ∧ SlG bc 1 5 h' x acc O ∧ O.length ≤ 1 ∧ (∀ y ∈ O, h2.size ≤ y) ∧ (s.drop j).length < m ∧
      pBytes ((s.drop i).length + 1) (s.drop i) = (pBytes m (s.drop j)).map fun q => (acc ++ q.1, q.2), fun _ h' => s.length - posOf h' p,
    ⟨i, [], [], (s.drop i).length + 1, Nat.le_refl _, by simp, Fr.refl _ _, c2, ⟨rfl, rfl⟩, by simp, by simp, by omega, by simp⟩, ?_⟩
  rintro x h7 ⟨j, acc, O, m, hij, hal, f7, c7, gx, hO, hO2, hm, hpb⟩
  have hj := c7.2
  intro hL
  refine F_text_cursor_byteOf.mono (cursor_byteOf_ok c7 hs) ?_ ?_
  · rintro b more h12 ⟨ob, r, hbs, hst, f12, j', hjj', c12, hr⟩
    have hj' := c12.2
    have hpO : p ∉ O := fun hm => by have := hO2 p hm; have := he.size; have := hn.2; omega
    have gx12 : SlG bc 1 5 h12 x acc O := gx.fr f12 (fun y hy => by simp; rintro rfl; exact hpO hy)
    have f12' : Fr [p] h2 h12 := f7.same f12
    obtain ⟨m', rfl⟩ : ∃ m', m = m' + 1 := ⟨m - 1, by omega⟩
    refine ⟨f12.sameOn hL (one_ne (Ne.symm hpp)), fun hend => ?_, fun hmore => ?_⟩
    · -- it ends
      have hob : ob = none := by
        cases ob with
        | none => rfl
        | some b => obtain ⟨hm1, _⟩ := hst; rw [hm1] at hend; cases hend
      subst hob
      have hP : pBytes ((s.drop i).length + 1) (s.drop i) = some (acc, r) := by rw [hpb]; simp [pBytes, hbs]
      refine ⟨acc, gx12.len.symm, by rw [bytesV_cells]; exact gx12.slcells, ?_⟩
      have g12 : Gl h12 := g.fr (f2.same f12') (by simpa using hp8)
      have hcut : sub s ((i : Int) - 1) (j' : Int) = 39 :: (s.drop i).take ((s.drop i).length - r.length) := by
        have e1 : ((i : Int) - 1).toNat = i - 1 := by omega
        unfold sub
        rw [e1, show ((j' : Int)).toNat = (i - 1) + (j' - (i - 1)) from by rw [Int.toNat_natCast]; omega, ← List.take_drop, hq]
        rw [show j' - (i - 1) = (j' - i) + 1 from by omega, List.take_succ_cons]
        congr 2
        rw [hdl, ← hr, List.length_drop]; omega
      have hal' : acc.length ≤ 1048576 := by omega
      refine JoinW.inl ⟨fun hbig => ⟨fun _ => ⟨rfl, ?_, f2.same f12'⟩, fun e => by cases e⟩, fun hbig hL12 => ?_⟩
      · unfold pQuoted; rw [hP]; simp only; rw [if_neg (by omega)]
      · refine F_text_Plain.mono (F_text_Plain.ok g12 hal' _) ?_ fun _ _ h => h
        rintro r18 h19 ⟨rfl, f19⟩
        have c19 := c12.fr f19 (by simp)
        refine ⟨f19.sameOn hL12 (by simp), fun hpl => ⟨fun _ => ⟨rfl, ?_, (f2.same f12').step f19⟩, fun e => by cases e⟩, fun hpl => ?_⟩
        · unfold pQuoted; rw [hP]; simp only; rw [if_neg (by rw [hpl]; simp)]
        · refine ⟨s, c19.str, (j' : Int), c19.pos, ⟨by omega, by omega, by omega⟩, fun hL19 => ?_⟩
          refine F_text_quoted.mono (F_text_quoted.ok hal' _) ?_ fun _ _ h => h
          rintro r24 h25 ⟨rfl, f25⟩
          have c25 := c19.fr f25 (by simp)
          have f25' := ((f2.same f12').step f19).step f25
          refine ⟨f25.sameOn hL19 (by simp), c25.pos, c25.str, fun hne => ⟨rfl, ?_, f25'⟩, fun heq h28 e28 => ?_⟩
          · have : quote acc ≠ sub s ((i : Int) - 1) (j' : Int) := by simpa [cmpS] using hne
            unfold pQuoted; rw [hP]; simp only; rw [if_neg (fun hh => this (by rw [hcut]; exact hh.2.2))]
          · have : quote acc = sub s ((i : Int) - 1) (j' : Int) := by simpa [cmpS] using heq
            refine ⟨.mk 2 0 acc [], r, ?_, ⟨rfl, rfl, rfl, [], RepS.nil, trivial⟩, f25'.ev e28 (one_ge hn.1), j', c25.fr e28.fr (one_not hpp), hr⟩
            unfold pQuoted; rw [hP]; simp only; rw [if_pos ⟨by omega, hpl, by rw [← hcut]; exact this⟩]
    · -- a byte more
      obtain ⟨d, rfl⟩ : ∃ d, ob = some d := by
        cases ob with
        | none => rw [show more = false from hst] at hmore; cases hmore
        | some d => exact ⟨d, rfl⟩
      obtain ⟨_, rfl⟩ := hst
      intro p29 h30 hp29 e30
      have f30 := Fr.push e30
      have gx30 := gx12.fr f30 (by simp)
      have c30 := c12.fr f30 (by simp)
      refine AppW.one (v := d) bc_len (fun v u hu => by simp at hu; subst hu; rfl) hO gx30 (Blk.new hp29 e30) (by omega) (by omega) rfl ?_
      intro x' h32 O' gx32 hO' f32 hsub
      have c32 := c30.fr f32 hpO
      have hO'2 : ∀ y ∈ O', h2.size ≤ y := fun y hy => by
        rcases hsub y hy with h' | h'
        · exact hO2 y h'
        · have := f7.1; have := f12.1; have := f30.1; omega
      have hb := byteStep_len hbs
      refine ⟨?_, ⟨j', acc ++ [d], O', m', by omega, by simp; omega, ?_, c32, gx32, hO', hO'2, by rw [hr]; omega, ?_⟩, ?_⟩
      · refine f32.sameOn ?_ ?_
        · exact hn.ltAll ((f12'.step f30))
        · intro y hy hm
          simp at hy
          subst hy
          have := hO2 y hm; have := hn.2; omega
      · exact (f12'.step f30).trans f32 (fun y hy => .inr (hO2 y hy))
      · rw [hpb]
        simp only [pBytes, hbs, ← hr, Option.map_map]
        congr 1
        funext q
        simp
      · show s.length - posOf h32 p < s.length - posOf h7 p
        rw [c32.posOf, c7.posOf]; omega
  · rintro ch h12 ⟨rfl, hbs, f12⟩
    refine ⟨rfl, ?_, f2.same (f7.same f12)⟩
    obtain ⟨m', rfl⟩ : ∃ m', m = m' + 1 := ⟨m - 1, by omega⟩
    unfold pQuoted
    rw [hpb]
    simp [pBytes, hbs]
end Go.Proofs.YtefbonjcpdjhcaaGreatDoor.X

/- Plain laws: numerals; the words of the language. -/
set_option linter.unusedVariables false
set_option maxRecDepth 100000
namespace Go.Proofs.YtefbonjcpdjhcaaGreatDoor.X
open Go Go.RowKit

/-! ### Numerals -/
theorem decDigits_small {u : Nat} (h : u < 10) : Lib.decDigits u = [UInt8.ofNat (48 + u)] := by rw [Lib.decDigits, dif_pos h]
theorem decDigits_big {u : Nat} (h : ¬ u < 10) : Lib.decDigits u = Lib.decDigits (u / 10) ++ [UInt8.ofNat (48 + u % 10)] := by rw [Lib.decDigits, dif_neg h]
theorem decDigits_le : ∀ (k u : Nat), u < 10 ^ (k + 1) → (Lib.decDigits u).length ≤ k + 1
  | 0, u, h => by rw [decDigits_small (by simpa using h)]; simp
  | k + 1, u, h => by
    by_cases hu : u < 10
    · rw [decDigits_small hu]; simp
    · rw [decDigits_big hu, List.length_append]
      have := decDigits_le k (u / 10) (by rw [Nat.pow_succ] at h; omega)
      simp; omega
theorem decDigits_pos (u : Nat) : 0 < (Lib.decDigits u).length := by
  by_cases hu : u < 10
  · rw [decDigits_small hu]; simp
  · rw [decDigits_big hu]; simp
theorem digit_nat (d : Nat) (h : d < 10) : (UInt8.ofNat (48 + d)).toNat = 48 + d := by
  simp; omega
/-- The number that digits say; a sign says nothing. -/
def dstep (a : Nat) (c : UInt8) : Nat := if c = 45 then a else 10 * a + (c.toNat - 48)
def dval (l : Str) : Nat := l.foldl dstep 0
theorem dval_snoc (l : Str) (c : UInt8) : dval (l ++ [c]) = dstep (dval l) c := by simp [dval]
theorem dstep_ge (a : Nat) (c : UInt8) : a ≤ dstep a c := by unfold dstep; split <;> omega
theorem foldl_dstep_ge : ∀ (l : Str) (a : Nat), a ≤ l.foldl dstep a
  | [], a => Nat.le_refl _
  | c :: l, a => Nat.le_trans (dstep_ge a c) (foldl_dstep_ge l _)
theorem dval_prefix (l m : Str) : dval l ≤ dval (l ++ m) := by unfold dval; rw [List.foldl_append]; exact foldl_dstep_ge _ _
theorem digit_ne (d : Nat) (h : d < 10) : UInt8.ofNat (48 + d) ≠ 45 := fun e => by
  have := congrArg UInt8.toNat e
  rw [digit_nat d h] at this
  have h2 : (45 : UInt8).toNat = 45 := rfl
  omega
theorem dval_dec : ∀ (u : Nat), dval (Lib.decDigits u) = u := by
  intro u
  induction u using Nat.strongRecOn with
  | _ u ih =>
    by_cases hu : u < 10
    · rw [decDigits_small hu]
      show dstep 0 _ = u
      unfold dstep; rw [if_neg (digit_ne u hu), digit_nat u hu]; omega
    · rw [decDigits_big hu, dval_snoc, ih (u / 10) (by omega)]
      unfold dstep; rw [if_neg (digit_ne _ (by omega)), digit_nat _ (by omega)]; omega
theorem decDigits_digits : ∀ (u : Nat) (c : UInt8), c ∈ Lib.decDigits u → 48 ≤ c.toNat ∧ c.toNat ≤ 57 := by
  intro u
  induction u using Nat.strongRecOn with
  | _ u ih =>
    intro c hc
    by_cases hu : u < 10
    · rw [decDigits_small hu] at hc
      simp only [List.mem_singleton] at hc
      rw [hc, digit_nat u hu]; omega
    · rw [decDigits_big hu, List.mem_append] at hc
      rcases hc with hc | hc
      · exact ih (u / 10) (by omega) c hc
      · simp only [List.mem_singleton] at hc
        rw [hc, digit_nat _ (by omega)]; omega
theorem dval_itoa (n : Int) : dval (Lib.itoa n) = n.natAbs := by
  unfold Lib.itoa
  split
  · show (Lib.decDigits n.natAbs).foldl dstep (dstep 0 45) = _
    exact dval_dec _
  · rw [dval_dec]; omega
theorem itoa_len {n : Int} (h0 : -576460752303423488 ≤ n) (h1 : n ≤ 576460752303423488) : (Lib.itoa n).length ≤ 19 := by
  unfold Lib.itoa
  split
  · have := decDigits_le 17 n.natAbs (by omega)
    simp; omega
  · have := decDigits_le 17 n.toNat (by omega)
    omega
theorem parseUint10_app : ∀ (l m : Str) (a : Nat), Lib.parseUint10 a (l ++ m) = match Lib.parseUint10 a l with
    | .ok b => Lib.parseUint10 b m
    | e => e
  | [], m, a => rfl
  | c :: l, m, a => by
    simp only [List.cons_append, Lib.parseUint10]
    split
    · split
      · rfl
      · split
        · rfl
        · exact parseUint10_app l m _
    · rfl
theorem parseUint10_dec : ∀ (u : Nat), u < 18446744073709551616 → Lib.parseUint10 0 (Lib.decDigits u) = .ok u := by
  intro u
  induction u using Nat.strongRecOn with
  | _ u ih =>
    intro h
    by_cases hu : u < 10
    · rw [decDigits_small hu]
      simp only [Lib.parseUint10]
      rw [digit_nat u hu, if_pos (by omega), if_neg (by omega), if_neg (by omega)]
      congr 1; omega
    · rw [decDigits_big hu, parseUint10_app, ih (u / 10) (by omega) (by omega)]
      simp only [Lib.parseUint10]
      rw [digit_nat _ (by omega), if_pos (by omega), if_neg (by omega), if_neg (by omega)]
      congr 1; omega
theorem parseMag_dec {u : Nat} (h : u < 18446744073709551616) : Lib.parseMag (Lib.decDigits u) = .ok u := by
  unfold Lib.parseMag
  rw [if_neg, parseUint10_dec u h]
  intro e
  have := decDigits_pos u
  rw [e] at this; simp at this
theorem atoi_itoa {n : Int} (h0 : -9223372036854775808 ≤ n) (h1 : n ≤ 9223372036854775807) : Lib.atoiAll (Lib.itoa n) = .ok n := by
  unfold Lib.itoa
  split
  · rename_i hn
    simp only [Lib.atoiAll]
    rw [if_pos (.inr rfl), parseMag_dec (by omega)]
    simp only
    rw [if_neg (by intro hh; exact hh.1 rfl), if_neg (by omega), if_pos (show UInt8.toNat 45 = 45 from rfl)]
    congr 1; omega
  · rename_i hn
    cases hd : Lib.decDigits n.toNat with
    | nil => have := decDigits_pos n.toNat; rw [hd] at this; simp at this
    | cons c r =>
      have hc := decDigits_digits n.toNat c (by rw [hd]; simp)
      simp only [Lib.atoiAll]
      rw [if_neg (by omega), ← hd, parseMag_dec (by omega)]
      simp only
      rw [if_neg (by omega), if_neg (by omega), if_neg (by omega)]
      congr 1; omega
theorem numOf_iff {l : Str} {n : Int} (h0 : -9223372036854775808 ≤ n) (h1 : n ≤ 9223372036854775807) : numOf l = some n ↔ l = Lib.itoa n := by
  unfold numOf
  constructor
  · intro h
    split at h
    · split at h
      · rename_i m _ he
        injection h with h; subst h; exact he.symm
      · cases h
    · cases h
  · rintro rfl
    rw [atoi_itoa h0 h1]; simp

/-! ### Words -/
def wordList : List Str := [[97, 102, 116, 101, 114], [97, 110, 100], [97, 110, 100, 97, 108, 115, 111], [98, 101, 103, 105, 110], [99, 97, 115, 101], [99, 97, 116, 99, 104], [100, 105, 118], [101, 110, 100], [102, 117, 110], [110, 111, 116], [111, 102], [111, 114], [111, 114, 101, 108, 115, 101], [114, 101, 99, 101, 105, 118, 101], [114, 101, 109], [116, 114, 121], [119, 104, 101, 110]]
/-- What stands between two blanks. -/
def pieceAt (j : Nat) : Option Str :=
  if wordsText[j]? = some 32 ∧ (wordsText.drop (j + 1)).dropWhile (fun c => c != 32) ≠ [] then some ((wordsText.drop (j + 1)).takeWhile (fun c => c != 32)) else none
theorem pieces : (List.range (wordsText.length + 1)).filterMap pieceAt = wordList := by decide +kernel
theorem takeWhile_prefix {s r : Str} (hs : ∀ c ∈ s, c ≠ 32) : (s ++ [32]).isPrefixOf r = true ↔ r.takeWhile (fun c => c != 32) = s ∧ r.dropWhile (fun c => c != 32) ≠ [] := by
  induction s generalizing r with
  | nil =>
    cases r with
    | nil => simp
    | cons c r =>
      by_cases hc : c = 32
      · subst hc; simp [List.isPrefixOf]
      · have : (32 == c) = false := by simpa using fun e => hc e.symm
        simp [List.isPrefixOf, this, hc]
  | cons a s ih =>
    have ha : a ≠ 32 := hs a (by simp)
    cases r with
    | nil => simp
    | cons c r =>
      have ih := ih (r := r) fun c hc => hs c (by simp [hc])
      by_cases hc : a = c
      · subst hc
        simp only [List.cons_append, List.isPrefixOf, beq_self_eq_true, Bool.true_and]
        rw [ih, List.takeWhile_cons_of_pos (by simpa using ha), List.dropWhile_cons_of_pos (by simpa using ha)]
        simp
      · have h1 : (a == c) = false := by simpa using hc
        simp only [List.cons_append, List.isPrefixOf, h1, Bool.false_and, Bool.false_eq_true, false_iff]
        rintro ⟨h2, h3⟩
        by_cases h32 : c = 32
        · subst h32; simp at h2
        · rw [List.takeWhile_cons_of_pos (by simpa using h32)] at h2
          injection h2 with h2 _
          exact hc h2.symm
theorem contains_word {s : Str} (hs : ∀ c ∈ s, c ≠ 32) : Lib.contains wordsText ([32] ++ s ++ [32]) = decide (s ∈ wordList) := by
  rw [← pieces]
  have key : ∀ j, Lib.occAt wordsText ([32] ++ s ++ [32]) j = true ↔ pieceAt j = some s := by
    intro j
    unfold Lib.occAt pieceAt
    cases hd : wordsText.drop j with
    | nil =>
      have hlt : wordsText.length ≤ j := by simpa using hd
      rw [if_neg (by rw [List.getElem?_eq_none hlt]; simp)]
      simp
    | cons c r =>
      have h1 : wordsText[j]? = some c := by
        have := congrArg (fun l => l[0]?) hd
        simpa using this
      have h2 : wordsText.drop (j + 1) = r := by rw [← List.drop_drop, hd]; rfl
      rw [h1, h2]
      by_cases hc : c = 32
      · subst hc
        show (List.isPrefixOf (32 :: (s ++ [32])) (32 :: r)) = true ↔ _
        simp only [List.isPrefixOf, beq_self_eq_true, Bool.true_and, true_and]
        rw [takeWhile_prefix hs]
        constructor
        · rintro ⟨h3, h4⟩
          rw [if_pos h4, h3]
        · intro h
          split at h
          · rename_i h4
            injection h with h
            exact ⟨h, h4⟩
          · cases h
      · have : (32 == c) = false := by simpa using fun e => hc e.symm
        have h3 : ¬ (some c = some (32 : UInt8) ∧ r.dropWhile (fun c => c != 32) ≠ []) := by rintro ⟨e, _⟩; injection e with e; exact hc e
        rw [if_neg h3]
        simp [List.isPrefixOf, this]
  rw [Bool.eq_iff_iff]
  simp only [Lib.contains, decide_eq_true_eq, List.mem_filterMap, List.mem_range]
  constructor
  · intro h
    rcases Lib.index_spec wordsText ([32] ++ s ++ [32]) with ⟨h1, _⟩ | ⟨i, h1, h2, h3, _⟩
    · omega
    · exact ⟨i, by omega, (key i).1 h3⟩
  · rintro ⟨j, hj, hp⟩
    rcases Lib.index_spec wordsText ([32] ++ s ++ [32]) with ⟨h1, h2⟩ | ⟨i, h1, h2, h3, _⟩
    · have := h2 j (by omega)
      rw [(key j).2 hp] at this; cases this
    · omega
theorem letter_ne {c : UInt8} (h : letter c = true) : c ≠ 32 := by
  intro e; subst e; exact absurd h (by decide)
/-- Plain, as the document has it. -/
theorem plain_eq (s : Str) : plain s = (!(s == []) && decide (s.length ≤ 64) && small (s.headD 0) && s.all letter && !decide (s ∈ wordList)) := by
  unfold plain
  have h1 : (s.any fun c => !letter c) = !(s.all letter) := by
    induction s with
    | nil => rfl
    | cons c s ih => simp [ih, Bool.not_and]
  rw [h1, Bool.not_not]
  cases ha : s.all letter with
  | false => simp
  | true =>
    rw [contains_word fun c hc => letter_ne (List.all_eq_true.1 ha c hc)]
    cases (s == []) <;> cases decide (s.length ≤ 64) <;> cases small (s.headD 0) <;> cases decide (s ∈ wordList) <;> rfl
end Go.Proofs.YtefbonjcpdjhcaaGreatDoor.X

/- Stage 2: the document's reader: what needs no state. -/
set_option linter.unusedVariables false
set_option maxRecDepth 100000
namespace Go.Proofs.YtefbonjcpdjhcaaGreatDoor.X
open Go Go.RowKit

theorem within_ok (c a b : Int) (h : Hp) (X : Chain → Hp → Prop) : F_tenureref05_within.call c a b h (fun r h' => r = ((decide (c ≥ a)) && (decide (c ≤ b))) ∧ h = h') X := by
  refine F_tenureref05_within.sound ?_
  exact ⟨rfl, rfl⟩
theorem sub_dig : ∀ n : Fin 10, sub ([48, 49, 50, 51, 52, 53, 54, 55, 56, 57] : Str) (n.val : Int) ((n.val : Int) + 1) = [UInt8.ofNat (48 + n.val)] := by decide +kernel
theorem Dec05_nat : ∀ (u : Nat), u ≤ 9223372036854775807 → ∀ (h : Hp) (X : Chain → Hp → Prop), F_tenureref05_Dec.call (u : Int) h (fun r h' => r = Lib.decDigits u ∧ h = h') X := by
  intro u
  induction u using Nat.strongRecOn with
  | _ u ih =>
    intro hu h X
    refine F_tenureref05_Dec.sound ?_
    unfold F_tenureref05_Dec.body
    have hmx : maxLen = 9223372036854775807 := rfl
    refine ⟨fun hn => by omega, fun _ => ⟨fun hs => ?_, fun hb => ?_⟩⟩
    · have e1 : IntKind.i64.wrap ((u : Int) + 1) = (u : Int) + 1 := wrap64 (by omega) (by omega)
      rw [e1]
      refine ⟨⟨by omega, by omega, by simp; omega⟩, ?_, rfl⟩
      rw [sub_dig ⟨u, by omega⟩, decDigits_small (by omega)]
    · have e1 : (u : Int).tdiv 10 = ((u / 10 : Nat) : Int) := by rw [Int.tdiv_eq_ediv_of_nonneg (by omega)]; omega
      have e2 : (u : Int).tmod 10 = ((u % 10 : Nat) : Int) := by rw [Int.tmod_eq_emod_of_nonneg (by omega)]; omega
      rw [e1, e2, wrap64 (by omega) (by omega)]
      refine F_tenureref05_Dec.mono (ih (u / 10) (by omega) (by omega) h X) ?_ fun _ _ h => h
      rintro r h' ⟨rfl, rfl⟩
      refine F_tenureref05_Dec.mono (ih (u % 10) (by omega) (by omega) h X) ?_ fun _ _ h => h
      rintro r h'' ⟨rfl, rfl⟩
      rw [decDigits_small (show u % 10 < 10 by omega)]
      have := decDigits_le 18 (u / 10) (by omega)
      refine ⟨by simp; omega, ?_, rfl⟩
      rw [decDigits_big (u := u) (by omega)]
theorem Dec05_ok {n : Int} (h0 : -9223372036854775807 ≤ n) (h1 : n ≤ 9223372036854775807) (h : Hp) (X : Chain → Hp → Prop) : F_tenureref05_Dec.call n h (fun r h' => r = Lib.itoa n ∧ h = h') X := by
  by_cases hn : n < 0
  · refine F_tenureref05_Dec.sound ?_
    unfold F_tenureref05_Dec.body
    have hmx : maxLen = 9223372036854775807 := rfl
    refine ⟨fun _ => ?_, fun h => absurd hn h⟩
    have e1 : IntKind.i64.wrap (0 - n) = ((n.natAbs : Nat) : Int) := by rw [wrap64 (by omega) (by omega)]; omega
    rw [e1]
    refine F_tenureref05_Dec.mono (Dec05_nat n.natAbs (by omega) h X) ?_ fun _ _ h => h
    rintro r h' ⟨rfl, rfl⟩
    have := decDigits_le 18 n.natAbs (by omega)
    refine ⟨by simp; omega, ?_, rfl⟩
    unfold Lib.itoa; rw [if_pos hn]; rfl
  · have := Dec05_nat n.toNat (by omega) h X
    rw [show ((n.toNat : Nat) : Int) = n by omega] at this
    refine F_tenureref05_Dec.mono this ?_ fun _ _ h => h
    rintro r h' ⟨rfl, rfl⟩
    refine ⟨?_, rfl⟩
    unfold Lib.itoa; rw [if_neg hn]

/-! ### Words, plain atoms -/
def cs (s : Str) : List Value := [.string (ba s)]
theorem word_ok (s : Str) (h : Hp) (X : Chain → Hp → Prop) : F_tenureref05_word.call s h (fun r h' => r = decide (s ∈ wordList) ∧ Fr [] h h') X := by
  refine F_tenureref05_word.sound ?_
  unfold F_tenureref05_word.body
  intro p h2 hp e2
  have f2 := Fr.push e2
  have b2 : Blk h2 p (cellsOf cS wordList) 9 := Blk.new hp e2
  have hrep : RepS cS h2 (fun _ => True) ⟨some ⟨p, 0, none⟩, 17, 17⟩ wordList := ⟨rfl, Nat.le_refl _, fun _ => ⟨p, 0, rfl, trivial, b2.cells0 (List.take_of_length_le (Nat.le_refl _))⟩⟩
  refine ⟨fun i g => h2 = g ∧ ∃ k : Nat, i = (k : Int) ∧ k ≤ 17 ∧ ∀ j w, j < k → wordList[j]? = some w → w ≠ s, fun i _ => (17 - i).toNat, ⟨rfl, 0, rfl, by omega, fun j w hj => by omega⟩, ?_⟩
  rintro _ _ ⟨rfl, k, rfl, hk, hno⟩
  refine ⟨fun hlt => ?_, fun hge => ?_⟩
  · have hlt : k < 17 := by have h17 : (k : Int) < ((17 : Nat) : Int) := hlt; omega
    have hlw : k < wordList.length := hlt
    have hw : wordList[k]? = some wordList[k] := List.getElem?_eq_getElem hlw
    obtain ⟨a, ha, hc⟩ := hrep.get (k := 1) (fun _ => rfl) hw
    refine IdxW.of (by show k < 17; omega) ha ⟨wordList[k], hc, fun heq => ?_, fun hne => ?_⟩
    · have heq : wordList[k] = s := by simpa [cmpS] using heq
      refine ⟨?_, f2⟩
      symm
      rw [decide_eq_true_eq, ← heq]
      exact List.getElem_mem hlw
    · have hne : ¬ wordList[k] = s := by simpa [cmpS] using hne
      intro x hx
      rw [wrap64 (by omega) (by omega)] at hx
      subst hx
      refine ⟨⟨rfl, k + 1, by omega, by omega, fun j w hj hjw => ?_⟩, by show (17 - ((k : Int) + 1)).toNat < (17 - (k : Int)).toNat; omega⟩
      rcases Nat.lt_or_ge j k with h' | h'
      · exact hno j w h' hjw
      · obtain rfl : j = k := by omega
        rw [hw] at hjw; injection hjw with hjw; subst hjw; exact hne
  · have hk17 : k = 17 := by have h17 : ¬ (k : Int) < ((17 : Nat) : Int) := hge; omega
    refine ⟨?_, f2⟩
    symm
    rw [decide_eq_false_iff_not]
    intro hm
    obtain ⟨j, hj, he⟩ := List.getElem_of_mem hm
    exact hno j s (by subst hk17; exact hj) (by rw [← he]; exact List.getElem?_eq_getElem hj) rfl
theorem bt_nat {s : Str} {i : Nat} (h : i < s.length) : bt s (i : Int) = ((s[i]).toNat : Int) := by
  unfold bt
  rw [show ((i : Int)).toNat = i from rfl, List.getD_eq_getElem?_getD, List.getElem?_eq_getElem h]; rfl
theorem big_int (c : UInt8) : ((decide ((c.toNat : Int) ≥ 65)) && (decide ((c.toNat : Int) ≤ 90))) = (decide (65 ≤ c.toNat) && decide (c.toNat ≤ 90)) := by
  congr 1 <;> exact decide_eq_decide.2 (by omega)
theorem dig_int (c : UInt8) : ((decide ((c.toNat : Int) ≥ 48)) && (decide ((c.toNat : Int) ≤ 57))) = (decide (48 ≤ c.toNat) && decide (c.toNat ≤ 57)) := by
  congr 1 <;> exact decide_eq_decide.2 (by omega)
theorem Plain05_ok {s : Str} {h : Hp} (hs : Small s) (X : Chain → Hp → Prop) : F_tenureref05_Plain.call s h (fun r h' => r = plain s ∧ Fr [] h h') X := by
  refine F_tenureref05_Plain.sound ?_
  unfold F_tenureref05_Plain.body
  have hsm : s.length ≤ 1048576 := hs
  have hpe := plain_eq s
  have goal2 : (s == []) = false → decide (s.length ≤ 64) = true → small (s.headD 0) = true → ∀ h4 : Hp, h = h4 → LoopW (fun (s9 : Int) h10 next11 =>
      (s9 < (s.length : Int) → (0 ≤ s9 ∧ s9 < s.length) ∧ F_tenureref05_within.call (bt s s9) 97 122 h10 (fun (r14 : Bool) (h15 : Hp) => JoinW (fun (k16 : Bool → Hp → Prop) =>
      ((!r14) = true → (0 ≤ s9 ∧ s9 < s.length) ∧ F_tenureref05_within.call (bt s s9) 65 90 h15 (fun (r21 : Bool) (h22 : Hp) => k16 (!r21) h22) X) ∧
      ((!r14) = false → k16 false h15)) (fun (y17 : Bool) h18 =>
      JoinW (fun (k23 : Bool → Hp → Prop) =>
      (y17 = true → (0 ≤ s9 ∧ s9 < s.length) ∧ F_tenureref05_within.call (bt s s9) 48 57 h18 (fun (r28 : Bool) (h29 : Hp) => k23 (!r28) h29) X) ∧
      (y17 = false → k23 false h18)) (fun (y24 : Bool) h25 =>
      ((y24 = true) → 0 ≤ s9 ∧ s9 < s.length) ∧ (((y24 && ((bt s s9) != 95)) = true) → 0 ≤ s9 ∧ s9 < s.length) ∧ (((y24 && ((bt s s9) != 95)) && ((bt s s9) != 64)) = true → (fun r h' => r = plain s ∧ Fr [] h h') false h25) ∧
      (((y24 && ((bt s s9) != 95)) && ((bt s s9) != 64)) = false → ∀ (x34 : Int), x34 = IntKind.i64.wrap (s9 + 1) → next11 x34 h25)))) X) ∧
      (¬ (s9 < (s.length : Int)) → F_tenureref05_word.call s h10 (fun (r35 : Bool) (h36 : Hp) => (fun r h' => r = plain s ∧ Fr [] h h') (!r35) h36) X)) 0 h4 := by
    rintro e1 e2 e3 _ rfl
    refine ⟨fun i g => h = g ∧ ∃ k : Nat, i = (k : Int) ∧ k ≤ s.length ∧ (s.take k).all letter = true, fun i _ => ((s.length : Int) - i).toNat, ⟨rfl, 0, rfl, by omega, rfl⟩, ?_⟩
    rintro _ _ ⟨rfl, k, rfl, hk, hall⟩
    refine ⟨fun hlt => ?_, fun hge => ?_⟩
    · have hlt : k < s.length := by omega
      rw [bt_nat hlt]
      refine ⟨⟨by omega, by omega⟩, ?_⟩
      refine F_tenureref05_within.mono (within_ok _ _ _ _ _) ?_ fun _ _ h => h
      rintro r1 _ ⟨rfl, rfl⟩
      rw [small_int]
      generalize hc : s[k] = c
      refine ⟨fun y g => h = g ∧ y = (!(small c) && !(decide (65 ≤ c.toNat) && decide (c.toNat ≤ 90))), ⟨fun hs => ⟨⟨by omega, by omega⟩, ?_⟩, fun hs => ⟨rfl, ?_⟩⟩, ?_⟩
      · refine F_tenureref05_within.mono (within_ok _ _ _ _ _) ?_ fun _ _ h => h
        rintro r1 _ ⟨rfl, rfl⟩
        refine ⟨rfl, ?_⟩
        rw [big_int, hs]; rfl
      · rw [hs]; rfl
      · rintro y _ ⟨rfl, rfl⟩
        refine ⟨fun y g => h = g ∧ y = (!(small c) && !(decide (65 ≤ c.toNat) && decide (c.toNat ≤ 90)) && !(decide (48 ≤ c.toNat) && decide (c.toNat ≤ 57))), ⟨fun hs => ⟨⟨by omega, by omega⟩, ?_⟩, fun hs => ⟨rfl, ?_⟩⟩, ?_⟩
        · refine F_tenureref05_within.mono (within_ok _ _ _ _ _) ?_ fun _ _ h => h
          rintro r1 _ ⟨rfl, rfl⟩
          refine ⟨rfl, ?_⟩
          rw [dig_int, hs]; rfl
        · rw [hs]; rfl
        · rintro y _ ⟨rfl, rfl⟩
          have hlet : ((!(small c) && !(decide (65 ≤ c.toNat) && decide (c.toNat ≤ 90)) && !(decide (48 ≤ c.toNat) && decide (c.toNat ≤ 57)) && ((c.toNat : Int) != 95)) && ((c.toNat : Int) != 64)) = !letter c := by
            unfold letter
            have h95 : ((c.toNat : Int) != 95) = !decide (c.toNat = 95) := by
              rw [Bool.eq_iff_iff]; simp; omega
            have h64 : ((c.toNat : Int) != 64) = !decide (c.toNat = 64) := by
              rw [Bool.eq_iff_iff]; simp; omega
            rw [h95, h64]
            simp only [Bool.not_or]
          refine ⟨fun _ => ⟨by omega, by omega⟩, fun _ => ⟨by omega, by omega⟩, fun hb => ⟨?_, Fr.refl _ _⟩, fun hb => ?_⟩
          · rw [hlet] at hb
            rw [hpe]
            have : s.all letter = false := by
              rw [List.all_eq_false]
              exact ⟨c, by rw [← hc]; exact List.getElem_mem hlt, by simpa using hb⟩
            rw [this]; simp
          · rw [hlet] at hb
            intro x hx
            rw [wrap64 (by omega) (by omega)] at hx
            subst hx
            refine ⟨⟨rfl, k + 1, by omega, by omega, ?_⟩, by show ((s.length : Int) - ((k : Int) + 1)).toNat < ((s.length : Int) - (k : Int)).toNat; omega⟩
            rw [List.take_succ_eq_append_getElem hlt, List.all_append, hall, hc]
            simpa using hb
    · have hk : k = s.length := by omega
      subst hk
      rw [List.take_length] at hall
      refine F_tenureref05_word.mono (word_ok _ _ _) ?_ fun _ _ h => h
      rintro r h' ⟨rfl, f⟩
      refine ⟨?_, f⟩
      rw [hpe, e1, e2, e3, hall]; rfl
  refine ⟨fun y g => h = g ∧ y = ((s == []) || !decide (s.length ≤ 64) || !small (s.headD 0)), ⟨fun hb => ⟨rfl, ?_⟩, fun hb => ?_⟩, ?_⟩
  · simp only [cmpS, Bool.or_eq_true, decide_eq_true_eq] at hb
    rcases hb with hb | hb
    · simp [hb]
    · rw [show decide (s.length ≤ 64) = false from decide_eq_false (by omega)]; simp
  · have hb' := hb
    simp only [cmpS, Bool.or_eq_false_iff, decide_eq_false_iff_not] at hb
    obtain ⟨hne, hle⟩ := hb
    obtain ⟨c, r, rfl⟩ : ∃ c r, s = c :: r := by
      cases s with
      | nil => simp at hne
      | cons c r => exact ⟨c, r, rfl⟩
    refine ⟨⟨by omega, by simp⟩, ?_⟩
    refine F_tenureref05_within.mono (within_ok _ _ _ _ _) ?_ fun _ _ h => h
    rintro r1 _ ⟨rfl, rfl⟩
    refine ⟨rfl, ?_⟩
    rw [show bt (c :: r) 0 = (c.toNat : Int) from rfl, small_int]
    have : decide ((c :: r).length ≤ 64) = true := decide_eq_true (by omega)
    rw [this]; rfl
  · rintro y _ ⟨rfl, rfl⟩
    refine ⟨fun hb => ⟨?_, Fr.refl _ _⟩, fun hb => ?_⟩
    · rw [hpe]
      cases h1 : (s == []) <;> cases h2 : decide (s.length ≤ 64) <;> cases h3 : small (s.headD 0) <;> first | rfl | (rw [h1, h2, h3] at hb; cases hb)
    · cases h1 : (s == []) <;> cases h2 : decide (s.length ≤ 64) <;> cases h3 : small (s.headD 0) <;> first | (rw [h1, h2, h3] at hb; cases hb; done) | exact goal2 h1 h2 h3 _ rfl

/-! ### Quoted atoms -/
theorem sub_hex' : ∀ n : Fin 16, sub ([48, 49, 50, 51, 52, 53, 54, 55, 56, 57, 97, 98, 99, 100, 101, 102] : Str) (n.val : Int) ((n.val : Int) + 1) = [hexOf n.val] := by decide +kernel
theorem sub_one {s : Str} {i : Nat} (h : i < s.length) : sub s (i : Int) ((i + 1 : Nat) : Int) = [s[i]] := by
  unfold sub
  rw [show (((i + 1 : Nat) : Int)).toNat = i + 1 from rfl, show ((i : Int)).toNat = i from rfl, List.take_succ_eq_append_getElem h]
  exact List.drop_left' (by rw [List.length_take]; omega)
theorem quoted05_ok {s : Str} {h : Hp} (hs : Small s) (X : Chain → Hp → Prop) : F_tenureref05_quoted.call s h (fun r h' => r = quote s ∧ h = h') X := by
  refine F_tenureref05_quoted.sound ?_
  unfold F_tenureref05_quoted.body
  have hsm : s.length ≤ 1048576 := hs
  have hmx : maxLen = 9223372036854775807 := rfl
  refine ⟨fun st g => h = g ∧ ∃ k : Nat, st.2 = (k : Int) ∧ k ≤ s.length ∧ st.1 = 39 :: qbytes (s.take k), fun st _ => ((s.length : Int) - st.2).toNat, ⟨rfl, 0, rfl, by omega, by simp [qbytes]⟩, ?_⟩
  rintro ⟨out, _⟩ _ ⟨rfl, k, rfl, hk, hout⟩
  simp only at hout ⊢
  subst hout
  have hql := qbytes_len (s.take k)
  rw [List.length_take] at hql
  refine ⟨fun hlt => ?_, fun hge => ?_⟩
  · have hlt : k < s.length := by omega
    have hstep : qbytes (s.take (k + 1)) = qbytes (s.take k) ++ qbyte s[k] := by
      rw [List.take_succ_eq_append_getElem hlt]; unfold qbytes; rw [List.flatMap_append]; simp
    refine ⟨fun st g => h = g ∧ st = 39 :: qbytes (s.take (k + 1)), ⟨⟨by omega, by omega⟩, ?_⟩, ?_⟩
    · rw [bt_nat hlt]
      generalize hc : s[k] = c at hstep
      rintro x9 rfl
      have hcl : c.toNat < 256 := c.toNat_lt
      have e1 : IntKind.u8.wrap (((c.toNat : Nat) : Int).tdiv 16) = ((c.toNat / 16 : Nat) : Int) := by
        rw [Int.tdiv_eq_ediv_of_nonneg (by omega), wrapu8 (by omega) (by omega)]; omega
      have e2 : ((c.toNat : Nat) : Int).tmod 16 = ((c.toNat % 16 : Nat) : Int) := by rw [Int.tmod_eq_emod_of_nonneg (by omega)]; omega
      rw [e1, e2]
      have e3 : IntKind.u8.wrap (((c.toNat / 16 : Nat) : Int) + 1) = ((c.toNat / 16 : Nat) : Int) + 1 := wrapu8 (by omega) (by omega)
      have e4 : IntKind.u8.wrap (((c.toNat % 16 : Nat) : Int) + 1) = ((c.toNat % 16 : Nat) : Int) + 1 := wrapu8 (by omega) (by omega)
      rw [e3, e4, sub_hex' ⟨c.toNat / 16, by omega⟩, sub_hex' ⟨c.toNat % 16, by omega⟩]
      refine ⟨fun hb => ?_, fun hb => ?_⟩
      · have hb : c.toNat < 32 ∨ 126 < c.toNat := by
          simp only [Bool.or_eq_true, decide_eq_true_eq] at hb; omega
        refine ⟨by simp; omega, ⟨by omega, by omega, by simp; omega⟩, by simp; omega, ⟨by omega, by omega, by simp; omega⟩, by simp; omega, rfl, ?_⟩
        rw [hstep]
        have h39 : ¬ (c = 39 ∨ c = 92) := by
          rintro (rfl | rfl) <;> simp at hb
        unfold qbyte
        rw [if_neg h39, if_pos hb]
        simp
      · have hb : ¬ (c.toNat < 32 ∨ 126 < c.toNat) := by
          simp only [Bool.or_eq_false_iff, decide_eq_false_iff_not] at hb; omega
        refine JoinW.inl ⟨fun hq => ?_, fun hq => ?_⟩
        · have hq : c = 39 ∨ c = 92 := by
            simp only [Bool.or_eq_true] at hq
            rcases hq with hq | hq
            · rw [show (39 : Int) = (((39 : UInt8).toNat : Nat) : Int) from rfl, u8_int] at hq; exact .inl (of_decide_eq_true hq)
            · rw [show (92 : Int) = (((92 : UInt8).toNat : Nat) : Int) from rfl, u8_int] at hq; exact .inr (of_decide_eq_true hq)
          refine ⟨by simp; omega, ?_⟩
          rw [wrap64 (by omega) (by omega)]
          have e5 : ((k : Int) + 1) = ((k + 1 : Nat) : Int) := by omega
          rw [e5, sub_one hlt]
          refine ⟨⟨by omega, by omega, by omega⟩, by simp; omega, rfl, ?_⟩
          rw [hstep, hc]
          unfold qbyte
          rw [if_pos hq]; simp
        · have hq : ¬ (c = 39 ∨ c = 92) := by
            simp only [Bool.or_eq_false_iff] at hq
            rw [show (39 : Int) = (((39 : UInt8).toNat : Nat) : Int) from rfl, u8_int, show (92 : Int) = (((92 : UInt8).toNat : Nat) : Int) from rfl, u8_int] at hq
            rintro (e | e)
            · exact of_decide_eq_false hq.1 e
            · exact of_decide_eq_false hq.2 e
          rw [wrap64 (by omega) (by omega)]
          have e5 : ((k : Int) + 1) = ((k + 1 : Nat) : Int) := by omega
          rw [e5, sub_one hlt]
          refine ⟨⟨by omega, by omega, by omega⟩, by simp; omega, rfl, ?_⟩
          rw [hstep, hc]
          unfold qbyte
          rw [if_neg hq, if_neg hb]; simp
    · rintro st _ ⟨rfl, rfl⟩
      intro x hx
      rw [wrap64 (by omega) (by omega)] at hx
      subst hx
      exact ⟨⟨rfl, k + 1, by show (k : Int) + 1 = ((k + 1 : Nat) : Int); omega, by omega, rfl⟩, by show ((s.length : Int) - ((k : Int) + 1)).toNat < ((s.length : Int) - (k : Int)).toNat; omega⟩
  · have hk : k = s.length := by omega
    subst hk
    rw [List.take_length] at hql ⊢
    refine ⟨by simp; omega, ?_⟩
    unfold quote; simp
theorem Text05_atom {s : Str} {x : Sl} {h : Hp} (hs : Small s) (X : Chain → Hp → Prop) : F_tenureref05_Text.call ⟨2, 0, s, x⟩ h (fun r h' => r = (if plain s = true then s else quote s) ∧ Fr [] h h') X := by
  refine F_tenureref05_Text.sound ?_
  unfold F_tenureref05_Text.body
  refine ⟨fun e => (by cases e), fun _ => ⟨fun _ p1 h2 hn ev hL => ?_, fun e => (by cases e)⟩⟩
  have f2 : Fr [] h h2 := (Fr.refl [] h).ev ev (one_ge hn.1)
  refine F_tenureref05_Plain.mono (Plain05_ok hs _) ?_ fun _ _ h => h
  rintro r h6 ⟨rfl, f6⟩
  refine ⟨f6.sameOn hL (by simp), fun hp => ?_, fun hp hL6 => ?_⟩
  · rw [if_pos hp]; exact ⟨rfl, f2.step f6⟩
  · rw [if_neg (by rw [hp]; simp)]
    refine F_tenureref05_quoted.mono (quoted05_ok hs _) ?_ fun _ _ h => h
    rintro r h8 ⟨rfl, rfl⟩
    exact ⟨fun _ _ => rfl, rfl, f2.step f6⟩
end Go.Proofs.YtefbonjcpdjhcaaGreatDoor.X

/- Stage 2: the document's reader: its small parts. -/
set_option linter.unusedVariables false
set_option maxRecDepth 100000
namespace Go.Proofs.YtefbonjcpdjhcaaGreatDoor.X
open Go Go.RowKit

/-- A reader: its text, how far it was read, is it bad. -/
def Rdr (h : Hp) (p : Nat) (s : Str) (i : Nat) (b : Bool) : Prop := Blk h p [.string (ba s), .int .i64 (i : Int), .bool b] 90
section
variable {h h' h1 : Hp} {p : Nat} {s : Str} {i : Nat} {b : Bool} {M : List Nat}
theorem Rdr.str (r : Rdr h p s i b) : hcells h ((⟨p, 0, none⟩ : Addr).add 0) (cS s) := Blk.cells r 0 rfl
theorem Rdr.pos (r : Rdr h p s i b) : hcells h ((⟨p, 0, none⟩ : Addr).add 1) (cI .i64 (i : Int)) := Blk.cells r 1 rfl
theorem Rdr.bad (r : Rdr h p s i b) : hcells h ((⟨p, 0, none⟩ : Addr).add 2) (cB b) := Blk.cells r 2 rfl
theorem Rdr.stp (r : Rdr h p s i b) : storable h ((⟨p, 0, none⟩ : Addr).add 1) 1 := Blk.storable r 1 1 (by simp)
theorem Rdr.stb (r : Rdr h p s i b) : storable h ((⟨p, 0, none⟩ : Addr).add 2) 1 := Blk.storable r 2 1 (by simp)
theorem Rdr.go (r : Rdr h p s i b) (j : Nat) {x : Int} (hx : x = (j : Int)) (e : h1 = hsets h ((⟨p, 0, none⟩ : Addr).add 1) [.int .i64 x]) : Rdr h1 p s j b ∧ Fr [p] h h1 := by
  subst hx
  have f := Fr.sets e
  rw [add_block] at f
  exact ⟨Blk.set (off := 1) (vs := [.int .i64 (j : Int)]) r (by simp) e, f⟩
theorem Rdr.set (r : Rdr h p s i b) {c : Bool} (e : h1 = hsets h ((⟨p, 0, none⟩ : Addr).add 2) [.bool c]) : Rdr h1 p s i c ∧ Fr [p] h h1 := by
  have f := Fr.sets e
  rw [add_block] at f
  exact ⟨Blk.set (off := 2) (vs := [.bool c]) r (by simp) e, f⟩
theorem Rdr.fr (r : Rdr h p s i b) (f : Fr M h h') (hm : p ∉ M) : Rdr h' p s i b := Blk.fr r f hm
theorem Rdr.lt (r : Rdr h p s i b) : p < h.size := Blk.lt r
end
/-- The byte that comes next. -/
def nextB (s : Str) (i : Nat) (b : Bool) : Int := if b = true ∨ s.length ≤ i then 0 else bt s (i : Int)
theorem next_ok {h : Hp} {p : Nat} {s : Str} {i : Nat} {b : Bool} (r : Rdr h p s i b) (X : Chain → Hp → Prop) : F_tenureref05_reader_next.call (some ⟨p, 0, none⟩) h (fun c h' => c = nextB s i b ∧ h = h') X := by
  refine F_tenureref05_reader_next.sound ?_
  unfold F_tenureref05_reader_next.body
  refine ⟨_, rfl, b, r.bad, (i : Int), fun _ => r.pos, s, fun _ => r.str, fun hc => ⟨?_, rfl⟩, fun hc => ⟨s, r.str, (i : Int), r.pos, ?_⟩⟩
  · unfold nextB
    rw [if_pos]
    simp only [Bool.or_eq_true, decide_eq_true_eq] at hc
    rcases hc with hc | hc
    · exact .inl hc
    · exact .inr (by omega)
  · simp only [Bool.or_eq_false_iff, decide_eq_false_iff_not] at hc
    refine ⟨⟨by omega, by omega⟩, ?_⟩
    rintro x rfl
    refine ⟨?_, rfl⟩
    unfold nextB
    rw [if_neg]
    rintro (h1 | h1)
    · rw [hc.1] at h1; cases h1
    · omega
theorem sub_is {s t : Str} {i : Nat} (h : i + t.length ≤ s.length) : (sub s (i : Int) ((i + t.length : Nat) : Int) == t) = t.isPrefixOf (s.drop i) := by
  unfold sub
  rw [show (((i + t.length : Nat) : Int)).toNat = i + t.length from rfl, show ((i : Int)).toNat = i from rfl, List.drop_take, show i + t.length - i = t.length by omega]
  rw [Bool.eq_iff_iff, beq_iff_eq, List.isPrefixOf_iff_prefix, List.prefix_iff_eq_take]
  exact ⟨fun e => e.symm, fun e => e.symm⟩
theorem isPrefixOf_short {s t : Str} {i : Nat} (h : s.length < i + t.length) (ht : t ≠ []) : t.isPrefixOf (s.drop i) = false := by
  rw [Bool.eq_false_iff]
  intro hc
  have := (List.isPrefixOf_iff_prefix.1 hc).length_le
  have h2 : 0 < t.length := List.length_pos_iff.2 ht
  rw [List.length_drop] at this
  omega
theorem starts_ok {h : Hp} {p : Nat} {s t : Str} {i : Nat} {b : Bool} (r : Rdr h p s i b) (hs : Small s) (hi : i ≤ s.length + 1) (ht : t ≠ []) (htl : t.length ≤ 100) (X : Chain → Hp → Prop) :
    F_tenureref05_reader_starts.call (some ⟨p, 0, none⟩) t h (fun c h' => c = (!b && t.isPrefixOf (s.drop i)) ∧ h = h') X := by
  refine F_tenureref05_reader_starts.sound ?_
  unfold F_tenureref05_reader_starts.body
  have hsm : s.length ≤ 1048576 := hs
  have htp : 0 < t.length := List.length_pos_iff.2 ht
  have e1 : IntKind.i64.wrap ((s.length : Int) - (i : Int)) = (s.length : Int) - (i : Int) := wrap64 (by omega) (by omega)
  have e2 : IntKind.i64.wrap ((i : Int) + (t.length : Int)) = ((i + t.length : Nat) : Int) := by rw [wrap64 (by omega) (by omega)]; omega
  refine ⟨_, rfl, b, r.bad, s, fun _ => r.str, (i : Int), fun _ => r.pos, s, fun _ => r.str, (i : Int), fun _ => r.pos, fun hc => ?_, ?_, rfl⟩
  · rw [e1] at hc
    rw [e2]
    simp only [Bool.and_eq_true, decide_eq_true_eq] at hc
    omega
  · rw [e1, e2]
    cases b with
    | true => rfl
    | false =>
      by_cases hl : i + t.length ≤ s.length
      · rw [show decide ((s.length : Int) - (i : Int) ≥ (t.length : Int)) = true from decide_eq_true (by omega)]
        rw [show cmpS .eql (sub s (i : Int) ((i + t.length : Nat) : Int)) t = (sub s (i : Int) ((i + t.length : Nat) : Int) == t) from rfl, sub_is hl]
        rfl
      · rw [show decide ((s.length : Int) - (i : Int) ≥ (t.length : Int)) = false from decide_eq_false (by omega), isPrefixOf_short (by omega) ht]
        rfl
/-- What eat leaves. -/
theorem eat_ok {h : Hp} {p : Nat} {s t : Str} {i : Nat} {b : Bool} (r : Rdr h p s i b) (hs : Small s) (hi : i ≤ s.length + 1) (ht : t ≠ []) (htl : t.length ≤ 100) (X : Chain → Hp → Prop) :
    F_tenureref05_reader_eat.call (some ⟨p, 0, none⟩) t h (fun h' => Fr [p] h h' ∧ (if (!b && t.isPrefixOf (s.drop i)) = true then Rdr h' p s (i + t.length) false ∧ i + t.length ≤ s.length else Rdr h' p s i true)) X := by
  refine F_tenureref05_reader_eat.sound ?_
  unfold F_tenureref05_reader_eat.body
  have hsm : s.length ≤ 1048576 := hs
  have htp : 0 < t.length := List.length_pos_iff.2 ht
  have e1 : IntKind.i64.wrap ((s.length : Int) - (i : Int)) = (s.length : Int) - (i : Int) := wrap64 (by omega) (by omega)
  have e2 : IntKind.i64.wrap ((i : Int) + (t.length : Int)) = ((i + t.length : Nat) : Int) := by rw [wrap64 (by omega) (by omega)]; omega
  have key : ((b || (decide ((s.length : Int) - (i : Int) < (t.length : Int)))) || (cmpS .neq (sub s (i : Int) ((i + t.length : Nat) : Int)) t)) = !(!b && t.isPrefixOf (s.drop i)) := by
    cases b with
    | true => rfl
    | false =>
      by_cases hl : i + t.length ≤ s.length
      · rw [show decide ((s.length : Int) - (i : Int) < (t.length : Int)) = false from decide_eq_false (by omega)]
        rw [show cmpS .neq (sub s (i : Int) ((i + t.length : Nat) : Int)) t = !(sub s (i : Int) ((i + t.length : Nat) : Int) == t) from rfl, sub_is hl]
        rfl
      · rw [show decide ((s.length : Int) - (i : Int) < (t.length : Int)) = true from decide_eq_true (by omega), isPrefixOf_short (by omega) ht]
        rfl
  refine ⟨_, rfl, b, r.bad, s, fun _ => r.str, (i : Int), fun _ => r.pos, s, fun _ => r.str, (i : Int), fun _ => r.pos, fun hc => ?_, fun hc => ?_, fun hc => ?_⟩
  · rw [e1] at hc
    rw [e2]
    simp only [Bool.or_eq_false_iff, decide_eq_false_iff_not] at hc
    omega
  · rw [e1, e2, key] at hc
    refine ⟨r.stb, fun h1 e => ?_⟩
    have := r.set e
    refine ⟨this.2, ?_⟩
    rw [if_neg (by intro hh; rw [hh] at hc; cases hc)]
    exact this.1
  · rw [e1, e2, key] at hc
    have hg : (!b && t.isPrefixOf (s.drop i)) = true := by
      cases hh : (!b && t.isPrefixOf (s.drop i)) with
      | true => rfl
      | false => rw [hh] at hc; cases hc
    have hb : b = false := by cases b with
      | true => simp at hg
      | false => rfl
    subst hb
    refine ⟨(i : Int), r.pos, r.stp, fun h1 e => ?_⟩
    rw [e2] at e
    have := r.go (i + t.length) rfl e
    refine ⟨this.2, ?_⟩
    rw [if_pos hg]
    refine ⟨this.1, ?_⟩
    rcases Nat.lt_or_ge s.length (i + t.length) with hl | hl
    · rw [isPrefixOf_short hl ht] at hg; simp at hg
    · exact hl

/-! ### The ends of a reading -/
/-- p's reader ends well behind the term, or it is bad. -/
def RRes (p : Nat) (s : Str) (L : Nat) (h' : Hp) (v : TV) : Option (Tm × Str) → Prop
  | none => ∃ j, j ≤ s.length + 1 ∧ Rdr h' p s j true
  | some (t, r) => ∃ j, j ≤ s.length ∧ Rdr h' p s j false ∧ s.drop j = r ∧ RepT h' (fun b => L ≤ b) v t
/-- The same, of a number. -/
def RNum (p : Nat) (s : Str) (h' : Hp) (v : Int) : Option (Int × Str) → Prop
  | none => ∃ j, j ≤ s.length + 1 ∧ Rdr h' p s j true
  | some (n, r) => ∃ j, j ≤ s.length ∧ Rdr h' p s j false ∧ s.drop j = r ∧ v = n
end Go.Proofs.YtefbonjcpdjhcaaGreatDoor.X

/- Stage 2: the document's reader: numbers. -/
set_option linter.unusedVariables false
set_option maxRecDepth 100000
namespace Go.Proofs.YtefbonjcpdjhcaaGreatDoor.X
open Go Go.RowKit

theorem Rdr.posOf {h : Hp} {p : Nat} {s : Str} {i : Nat} {b : Bool} (r : Rdr h p s i b) : Go.Proofs.YtefbonjcpdjhcaaGreatDoor.X.posOf h p = i := by
  have := r.pos 0 _ rfl
  rw [add_zero_lit] at this
  unfold Go.Proofs.YtefbonjcpdjhcaaGreatDoor.X.posOf
  rw [show (⟨p, 1, none⟩ : Addr) = (⟨p, 1, none⟩ : Addr).add 0 from rfl, this]
  simp
theorem takeWhile_all (f : UInt8 → Bool) : ∀ (l : Str) (c : UInt8), c ∈ l.takeWhile f → f c = true
  | [], c, h => by simp at h
  | a :: l, c, h => by
    by_cases ha : f a = true
    · rw [List.takeWhile_cons_of_pos ha] at h
      rcases List.mem_cons.1 h with rfl | h
      · exact ha
      · exact takeWhile_all f l c h
    · rw [List.takeWhile_cons_of_neg ha] at h; simp at h
theorem numTok_mem {T : Str} {c : UInt8} (h : c ∈ numTok T) : c = 45 ∨ isDig c = true := by
  unfold numTok at h
  split at h
  · rcases List.mem_cons.1 h with rfl | h
    · exact .inl rfl
    · exact .inr (takeWhile_all _ _ _ h)
  · exact .inr (takeWhile_all _ _ _ h)
theorem numTok_le (T : Str) : (numTok T).length ≤ T.length := by
  have := congrArg List.length (numTok_take T)
  rw [List.length_take] at this
  omega
theorem tok_more {s : Str} {i j : Nat} (h1 : (if ([45] : Str).isPrefixOf (s.drop i) then i + 1 else i) ≤ j) (h2 : j ≤ i + (numTok (s.drop i)).length) :
    (decide (nextB s j false ≥ 48) && decide (nextB s j false ≤ 57)) = decide (j < i + (numTok (s.drop i)).length) := by
  have hlen := numTok_len s i
  generalize (if ([45] : Str).isPrefixOf (s.drop i) then i + 1 else i) = i1 at h1 hlen
  have htw := takeWhile_drop isDig (s.drop i1) (j - i1) (by omega)
  rw [List.drop_drop, show i1 + (j - i1) = j by omega] at htw
  have hl := congrArg List.length htw
  rw [List.length_drop] at hl
  cases hd : s.drop j with
  | nil =>
    rw [hd] at hl
    simp at hl
    have : s.length ≤ j := by simpa using hd
    unfold nextB
    rw [if_pos (.inr this), decide_eq_false (show ¬ j < i + (numTok (s.drop i)).length by omega)]
    rfl
  | cons d r =>
    have hlt := drop_cons_lt hd
    have hn : nextB s j false = (d.toNat : Int) := by
      unfold nextB
      rw [if_neg (by rintro (h | h); cases h; omega), bt_drop hd]
    rw [hn, dig_int]
    rw [hd] at hl
    by_cases hdig : isDig d = true
    · rw [List.takeWhile_cons_of_pos hdig] at hl
      simp at hl
      rw [decide_eq_true (show j < i + (numTok (s.drop i)).length by omega)]
      exact hdig
    · rw [List.takeWhile_cons_of_neg hdig] at hl
      simp at hl
      rw [decide_eq_false (show ¬ j < i + (numTok (s.drop i)).length by omega)]
      simpa [isDig] using hdig
/-- What is told of a token. -/
def tokVal (tok : Str) : Int := if tok.head? = some 45 then -(dval tok : Int) else (dval tok : Int)
theorem tokVal_itoa (n : Int) : tokVal (Lib.itoa n) = n := by
  unfold tokVal
  rw [dval_itoa]
  unfold Lib.itoa
  by_cases hn : n < 0
  · rw [if_pos hn]; simp; omega
  · rw [if_neg hn]
    cases hd : Lib.decDigits n.toNat with
    | nil => have := decDigits_pos n.toNat; rw [hd] at this; simp at this
    | cons c r =>
      have hc := decDigits_digits n.toNat c (by rw [hd]; simp)
      rw [if_neg]
      · omega
      · intro e
        simp at e
        subst e
        simp at hc
theorem pNum_some {lo hi n : Int} {T r : Str} (hlo : -576460752303423488 ≤ lo) (hhi : hi ≤ 576460752303423487) (h : pNum lo hi T = some (n, r)) : numTok T = Lib.itoa n ∧ lo ≤ n ∧ n ≤ hi ∧ r = T.drop (numTok T).length := by
  unfold pNum at h
  split at h
  · rename_i m hm
    split at h
    · rename_i hb
      injection h with h; injection h with h1 h2; subst h1
      exact ⟨(numOf_iff (by omega) (by omega)).1 hm, hb.1, hb.2, h2.symm⟩
    · cases h
  · cases h
theorem num_good {lo hi : Int} {T : Str} {m : Nat} (hlo : -576460752303423488 ≤ lo) (hhi : hi ≤ 576460752303423487) (hm : m ≤ (numTok T).length) (hor : m = (numTok T).length ∨ 20 ≤ m)
    (h1 : lo ≤ tokVal (T.take m)) (h2 : tokVal (T.take m) ≤ hi) (h3 : T.take m = Lib.itoa (tokVal (T.take m))) : m = (numTok T).length ∧ pNum lo hi T = some (tokVal (T.take m), T.drop m) := by
  have hl := itoa_len (n := tokVal (T.take m)) (by omega) (by omega)
  rw [← h3, List.length_take] at hl
  have hle := numTok_le T
  have he : m = (numTok T).length := by omega
  refine ⟨he, ?_⟩
  have htok : T.take m = numTok T := by rw [he]; exact numTok_take T
  rw [htok] at h1 h2 h3 ⊢
  unfold pNum
  rw [(numOf_iff (by omega) (by omega)).2 h3]
  simp only
  rw [if_pos ⟨h1, h2⟩, he]
theorem num_back {lo hi n : Int} {T r : Str} {m : Nat} (hlo : -576460752303423488 ≤ lo) (hhi : hi ≤ 576460752303423487) (hm : m ≤ (numTok T).length) (hor : m = (numTok T).length ∨ 20 ≤ m)
    (h : pNum lo hi T = some (n, r)) : tokVal (T.take m) = n ∧ T.take m = Lib.itoa n ∧ lo ≤ n ∧ n ≤ hi := by
  obtain ⟨h1, h2, h3, h4⟩ := pNum_some hlo hhi h
  have hl := itoa_len (n := n) (by omega) (by omega)
  rw [← h1] at hl
  have he : m = (numTok T).length := by omega
  have htok : T.take m = numTok T := by rw [he]; exact numTok_take T
  rw [htok, h1, tokVal_itoa]
  exact ⟨rfl, rfl, h2, h3⟩
theorem num_over {lo hi n : Int} {T r : Str} {m : Nat} (hlo : -576460752303423488 ≤ lo) (hhi : hi ≤ 576460752303423487) (hm : m ≤ (numTok T).length) (h : pNum lo hi T = some (n, r)) : dval (T.take m) ≤ 576460752303423488 := by
  obtain ⟨h1, h2, h3, h4⟩ := pNum_some hlo hhi h
  have h5 := dval_itoa n
  rw [← h1] at h5
  have h6 : numTok T = T.take m ++ (numTok T).drop m := by
    conv => lhs; rw [← List.take_append_drop m (numTok T)]
    congr 1
    conv => rhs; rw [← List.take_append_drop (numTok T).length T, numTok_take]
    rw [List.take_append_of_le_length hm]
  have h7 := dval_prefix (T.take m) ((numTok T).drop m)
  rw [← h6] at h7
  omega
theorem number_ok {h : Hp} {p : Nat} {s : Str} {i : Nat} {b : Bool} {lo hi : Int} (r : Rdr h p s i b) (hs : Small s) (hi1 : i ≤ s.length + 1) (hib : b = false → i ≤ s.length)
    (hlo : -576460752303423488 ≤ lo) (hhi : hi ≤ 576460752303423487) (X : Chain → Hp → Prop) :
    F_tenureref05_reader_number.call (some ⟨p, 0, none⟩) lo hi h (fun v h' => Fr [p] h h' ∧ (if b = true then Rdr h' p s i true else RNum p s h' v (pNum lo hi (s.drop i)))) X := by
  refine F_tenureref05_reader_number.sound ?_
  unfold F_tenureref05_reader_number.body
  have hsm : s.length ≤ 1048576 := hs
  -- where the token begins behind its sign, and ends
  obtain ⟨i1, hi1e⟩ : ∃ i1, i1 = if (!b && ([45] : Str).isPrefixOf (s.drop i)) = true then i + 1 else i := ⟨_, rfl⟩
  obtain ⟨jF, hjF⟩ : ∃ jF, jF = if b = true then i else i + (numTok (s.drop i)).length := ⟨_, rfl⟩
  have hii1 : i ≤ i1 := by rw [hi1e]; split <;> omega
  have hi1F : i1 ≤ jF := by
    cases b with
    | true => simp at hi1e hjF; omega
    | false =>
      have := numTok_len s i
      simp at hi1e hjF
      rw [hi1e, hjF]
      split <;> rename_i hh <;> simp [hh] at this <;> omega
  have hjFl : b = false → jF ≤ s.length := fun hb => by
    have := numTok_le (s.drop i)
    have h2 := hib hb
    rw [List.length_drop] at this
    rw [hb] at hjF
    simp at hjF
    omega
  have hjFb : b = true → jF = i := fun hb => by rw [hb] at hjF; simpa using hjF
  have hi1b : b = true → i1 = i := fun hb => by have := hjFb hb; omega
  refine ⟨_, rfl, (i : Int), r.pos, fun _ g => Fr [p] h g ∧ Rdr g p s i1 b, ?_, ?_⟩
  · refine F_tenureref05_reader_starts.mono (starts_ok r hs hi1 (by simp) (by simp) _) ?_ fun _ _ h => h
    rintro c _ ⟨rfl, rfl⟩
    refine ⟨fun hc => ⟨(i : Int), r.pos, r.stp, fun h9 e9 => ?_⟩, fun hc => ?_⟩
    · have := r.go (i + 1) (x := IntKind.i64.wrap ((i : Int) + 1)) (by rw [wrap64 (by omega) (by omega)]; omega) e9
      rw [if_pos hc] at hi1e
      rw [hi1e]
      exact ⟨this.2, this.1⟩
    · rw [if_neg (by rw [hc]; simp)] at hi1e
      rw [hi1e]
      exact ⟨Fr.refl _ _, r⟩
  rintro _ h5 ⟨f5, r5⟩
  refine ⟨fun _ g => ∃ j, i1 ≤ j ∧ j ≤ jF ∧ Fr [p] h g ∧ Rdr g p s j b, fun _ g => s.length + 1 - posOf g p, ⟨i1, Nat.le_refl _, hi1F, f5, r5⟩, ?_⟩
  rintro _ h11 ⟨j, hj1, hj2, f11, r11⟩
  have hjl1 : j ≤ s.length + 1 := by
    cases b with
    | true => have := hjFb rfl; omega
    | false => have := hjFl rfl; omega
  refine F_tenureref05_reader_next.mono (next_ok r11 _) ?_ fun _ _ h => h
  rintro c _ ⟨rfl, rfl⟩
  refine F_tenureref05_within.mono (within_ok _ _ _ _ _) ?_ fun _ _ h => h
  rintro w _ ⟨hw, rfl⟩
  have hwj : w = decide (j < jF) := by
    rw [hw]
    cases b with
    | true =>
      have h1 := hjFb rfl
      have : nextB s j true = 0 := by unfold nextB; rw [if_pos (.inl rfl)]
      rw [this, decide_eq_false (show ¬ j < jF by omega)]; rfl
    | false =>
      have hjF' : jF = i + (numTok (s.drop i)).length := by rw [hjF]; rfl
      rw [hjF'] at hj2 ⊢
      exact tok_more (by rw [hi1e] at hj1; exact hj1) hj2
  have e1 : IntKind.i64.wrap ((j : Int) - (i : Int)) = (j : Int) - (i : Int) := wrap64 (by omega) (by omega)
  refine ⟨(j : Int), fun _ => r11.pos, fun hc => ⟨(j : Int), r11.pos, r11.stp, fun h21 e21 => ?_⟩, fun hc => ?_⟩
  · rw [hwj, e1] at hc
    simp only [Bool.and_eq_true, decide_eq_true_eq] at hc
    have := r11.go (j + 1) (x := IntKind.i64.wrap ((j : Int) + 1)) (by rw [wrap64 (by omega) (by omega)]; omega) e21
    refine ⟨⟨j + 1, by omega, by omega, f11.same this.2, this.1⟩, ?_⟩
    show s.length + 1 - posOf h21 p < s.length + 1 - posOf h11 p
    have hb : b = false := by cases b with
      | true => have := hjFb rfl; omega
      | false => rfl
    have := hjFl hb
    rw [Rdr.posOf (by assumption : Rdr h11 p s j b), ((r11.go (j + 1) (x := IntKind.i64.wrap ((j : Int) + 1)) (by rw [wrap64 (by omega) (by omega)]; omega) e21).1).posOf]
    omega
  · rw [hwj, e1] at hc
    have hend : j = jF ∨ 20 ≤ j - i := by
      rcases Nat.lt_or_ge j jF with hlt | hge
      · right
        rw [decide_eq_true hlt] at hc
        simp at hc
        omega
      · left; omega
    refine ⟨(j : Int), r11.pos, s, fun _ => r11.str, fun hlt => ?_, ?_⟩
    · have hb : b = false := by cases b with
        | true => have := hjFb rfl; omega
        | false => rfl
      have := hjFl hb
      exact ⟨by omega, by omega⟩
    -- the token's number
    have hkey : b = false → j - i ≤ (numTok (s.drop i)).length ∧ (j - i = (numTok (s.drop i)).length ∨ 20 ≤ j - i) := fun hb => by
      rw [hb] at hjF; simp at hjF; omega
    refine ⟨fun st g => h11 = g ∧ ∃ k : Nat, st.2 = (k : Int) ∧ i ≤ k ∧ k ≤ j ∧ st.1 = -((dval ((s.drop i).take (k - i)) : Nat) : Int) ∧ dval ((s.drop i).take (k - i)) ≤ 576460752303423488, fun st _ => ((j : Int) - st.2).toNat,
      ⟨rfl, i, rfl, Nat.le_refl _, by omega, by simp [dval], by simp [dval]⟩, ?_⟩
    rintro ⟨n, _⟩ _ ⟨rfl, k, rfl, hk1, hk2, hn, hdv⟩
    simp only at hn ⊢
    subst hn
    refine ⟨(j : Int), r11.pos, fun hlt => ?_, fun hge => ?_⟩
    · have hlt : k < j := by omega
      have hb : b = false := by cases b with
        | true => have := hjFb rfl; omega
        | false => rfl
      have hjl := hjFl hb
      have hkl : k < s.length := by omega
      obtain ⟨c, rr, hcd⟩ : ∃ c rr, s.drop k = c :: rr := ⟨s[k], s.drop (k + 1), List.drop_eq_getElem_cons hkl⟩
      have hck : (s.drop i)[k - i]? = some c := by
        have := congrArg (fun l => l[0]?) hcd
        rw [List.getElem?_drop, show i + (k - i) = k by omega]
        simpa using this
      have hcm : c ∈ numTok (s.drop i) := by
        rw [← numTok_take (s.drop i)]
        have h1 := (hkey hb).1
        refine List.mem_of_getElem? (i := k - i) ?_
        rw [List.getElem?_take, if_pos (by omega), hck]
      have hsn : (s.drop i).take (k + 1 - i) = (s.drop i).take (k - i) ++ [c] := by
        rw [show k + 1 - i = (k - i) + 1 by omega, List.take_add_one, hck]; rfl
      have hdn : dval ((s.drop i).take (k + 1 - i)) = dstep (dval ((s.drop i).take (k - i))) c := by rw [hsn, dval_snoc]
      refine ⟨fun x g => h11 = g ∧ x = -((dval ((s.drop i).take (k + 1 - i)) : Nat) : Int) ∧ dval ((s.drop i).take (k + 1 - i)) ≤ 576460752303423488, ⟨s, r11.str, ⟨by omega, by omega⟩, fun h45 => ?_, fun h45 => ⟨⟨by omega, by omega⟩, ?_⟩⟩, ?_⟩
      · rw [bt_drop hcd, show (45 : Int) = (((45 : UInt8).toNat : Nat) : Int) from rfl, u8_int] at h45
        have h45 := of_decide_eq_true h45
        have : dstep (dval ((s.drop i).take (k - i))) c = dval ((s.drop i).take (k - i)) := by unfold dstep; rw [if_pos h45]
        exact ⟨rfl, by rw [hdn, this], by rw [hdn, this]; exact hdv⟩
      · rw [bt_drop hcd] at h45 ⊢
        rw [show (45 : Int) = (((45 : UInt8).toNat : Nat) : Int) from rfl, u8_int] at h45
        have h45 := of_decide_eq_false h45
        have hdig : isDig c = true := by
          rcases numTok_mem hcm with h' | h'
          · exact absurd h' h45
          · exact h'
        unfold isDig at hdig
        simp only [Bool.and_eq_true, decide_eq_true_eq] at hdig
        have hds : dstep (dval ((s.drop i).take (k - i))) c = 10 * dval ((s.drop i).take (k - i)) + (c.toNat - 48) := by unfold dstep; rw [if_neg h45]
        generalize hDN : dval ((s.drop i).take (k - i)) = DN at *
        rintro x37 hx37
        rw [wrapu8 (by omega) (by omega), wrap64 (by omega) (by omega)] at hx37
        subst hx37
        have e3 : IntKind.i64.wrap ((-576460752303423488) + ((c.toNat : Int) - 48)) = -(((576460752303423488 - (c.toNat - 48) : Nat)) : Int) := by rw [wrap64 (by omega) (by omega)]; omega
        have e4 : (-(((576460752303423488 - (c.toNat - 48) : Nat)) : Int)).tdiv 10 = -(((576460752303423488 - (c.toNat - 48)) / 10 : Nat) : Int) := by
          rw [Int.neg_tdiv, Int.tdiv_eq_ediv_of_nonneg (by omega)]; omega
        rw [e3, e4, wrap64 (by omega) (by omega)]
        refine ⟨fun hov => ⟨r11.stb, fun h38 e38 => ?_⟩, fun hov => ?_⟩
        · have hr := r11.set e38
          refine ⟨f11.same hr.2, ?_⟩
          rw [if_neg (by rw [hb]; simp)]
          cases hp : pNum lo hi (s.drop i) with
          | none => exact ⟨j, hjl1, hr.1⟩
          | some q =>
            obtain ⟨m, r'⟩ := q
            have := num_over (m := k + 1 - i) hlo hhi (by have := (hkey hb).1; omega) hp
            rw [hdn, hds] at this
            omega
        · rintro x39 hx39
          rw [wrap64 (x := 10 * _) (by omega) (by omega), wrap64 (by omega) (by omega)] at hx39
          refine ⟨rfl, ?_, ?_⟩
          · rw [hx39, hdn, hds]; omega
          · rw [hdn, hds]; omega
      · rintro x _ ⟨rfl, rfl, hdv'⟩
        rintro x40 hx40
        rw [wrap64 (by omega) (by omega)] at hx40
        subst hx40
        exact ⟨⟨rfl, k + 1, by show (k : Int) + 1 = ((k + 1 : Nat) : Int); omega, by omega, by omega, rfl, hdv'⟩, by show ((j : Int) - ((k : Int) + 1)).toNat < ((j : Int) - (k : Int)).toNat; omega⟩
    · have hkj : k = j := by omega
      subst hkj
      have htokl : (decide ((i : Int) < (k : Int)) && (bt s (i : Int) == 45)) = decide (((s.drop i).take (k - i)).head? = some 45) := by
        by_cases hik : i < k
        · have hb : b = false := by cases b with
            | true => have := hjFb rfl; omega
            | false => rfl
          have hil : i < s.length := by have := hjFl hb; omega
          obtain ⟨c, rr, hcd⟩ : ∃ c rr, s.drop i = c :: rr := ⟨s[i], s.drop (i + 1), List.drop_eq_getElem_cons hil⟩
          rw [bt_drop hcd, hcd, show k - i = (k - i - 1) + 1 by omega, List.take_succ_cons, decide_eq_true (show (i : Int) < (k : Int) by omega), show (45 : Int) = (((45 : UInt8).toNat : Nat) : Int) from rfl, u8_int]
          simp
        · rw [decide_eq_false (show ¬ (i : Int) < (k : Int) by omega), show k - i = 0 by omega]; rfl
      refine ⟨fun x g => h11 = g ∧ x = tokVal ((s.drop i).take (k - i)), ⟨fun hc => ?_, fun hc => ?_⟩, ?_⟩
      · rw [htokl] at hc
        rintro x44 hx44
        refine ⟨rfl, ?_⟩
        rw [hx44]
        unfold tokVal
        rw [if_neg (by simpa using hc), wrap64 (by omega) (by omega)]; omega
      · rw [htokl] at hc
        refine ⟨rfl, ?_⟩
        unfold tokVal
        rw [if_pos (by simpa using hc)]
      · rintro v _ ⟨rfl, hv⟩
        have hvb : -576460752303423488 ≤ v ∧ v ≤ 576460752303423488 := by
          rw [hv]; unfold tokVal; split <;> omega
        refine ⟨fun y g => h11 = g ∧ y = !(!b && decide (lo ≤ v) && decide (v ≤ hi) && decide ((s.drop i).take (k - i) = Lib.itoa v)), ⟨b, r11.bad, fun hb => ⟨rfl, ?_⟩, fun hb => ⟨fun hl => ⟨rfl, ?_⟩, fun hl => ⟨fun hh => ⟨rfl, ?_⟩, fun hh => ?_⟩⟩⟩, ?_⟩
        · rw [hb]; rfl
        · rw [decide_eq_false (show ¬ lo ≤ v by omega)]; simp
        · rw [decide_eq_false (show ¬ v ≤ hi by omega)]; simp
        · have hjl := hjFl hb
          refine ⟨s, r11.str, (k : Int), r11.pos, ⟨by omega, by omega, by omega⟩, ?_⟩
          refine F_tenureref05_Dec.mono (Dec05_ok (by omega) (by omega) _ _) ?_ fun _ _ h => h
          rintro it _ ⟨rfl, rfl⟩
          refine ⟨r11.pos, r11.str, rfl, ?_⟩
          have hsub : sub s (i : Int) (k : Int) = (s.drop i).take (k - i) := by
            unfold sub
            rw [show ((k : Int)).toNat = k from rfl, show ((i : Int)).toNat = i from rfl, List.drop_take]
          rw [hsub, hb, decide_eq_true (show lo ≤ v by omega), decide_eq_true (show v ≤ hi by omega)]
          simp only [cmpS, Bool.not_false, Bool.true_and]
          congr 1
          rw [Bool.eq_iff_iff]; simp
        · rintro y _ ⟨rfl, hy⟩
          refine ⟨fun hyt => ⟨r11.stb, fun h59 e59 => ?_⟩, fun hyf => ?_⟩
          · have hr := r11.set e59
            refine ⟨f11.same hr.2, ?_⟩
            by_cases hb : b = true
            · rw [if_pos hb]
              have := hjFb hb
              have hki : k = i := by omega
              rw [← hki]
              exact hr.1
            · rw [if_neg hb]
              have hb : b = false := by simpa using hb
              cases hp : pNum lo hi (s.drop i) with
              | none => exact ⟨k, hjl1, hr.1⟩
              | some q =>
                obtain ⟨m, r'⟩ := q
                obtain ⟨h1, h2, h3, h4⟩ := num_back hlo hhi (hkey hb).1 (hkey hb).2 hp
                rw [← hv] at h1
                rw [hyt, hb, h1, decide_eq_true h3, decide_eq_true h4, decide_eq_true h2] at hy
                simp at hy
          · rw [hyf] at hy
            have hy := hy.symm
            simp only [Bool.not_eq_false', Bool.and_eq_true, decide_eq_true_eq, Bool.not_eq_true'] at hy
            obtain ⟨⟨⟨hb, h1⟩, h2⟩, h3⟩ := hy
            refine ⟨f11, ?_⟩
            rw [if_neg (by rw [hb]; simp)]
            rw [hv] at h1 h2 h3
            obtain ⟨h4, h5⟩ := num_good hlo hhi (hkey hb).1 (hkey hb).2 h1 h2 h3
            rw [h5]
            refine ⟨k, by have := hjFl hb; omega, by rw [hb] at r11; exact r11, ?_, hv⟩
            rw [List.drop_drop, show i + (k - i) = k by omega]
end Go.Proofs.YtefbonjcpdjhcaaGreatDoor.X

/- Stage 2: the document's reader: atoms. -/
set_option linter.unusedVariables false
set_option maxRecDepth 100000
namespace Go.Proofs.YtefbonjcpdjhcaaGreatDoor.X
open Go Go.RowKit

/-! ### Plain law: quoted atoms -/
theorem hexi_hexOf : ∀ n : Fin 16, hexi (hexOf n.val) = (n.val : Int) := by decide +kernel
theorem byteStep_qbyte (c : UInt8) (r : Str) : byteStep (qbyte c ++ r) = some (some c, r) := by
  unfold qbyte
  split
  · rename_i h
    rcases h with rfl | rfl <;> rfl
  · rename_i h
    split
    · have hc := c.toNat_lt
      show escStep (120 :: hexOf (c.toNat / 16) :: hexOf (c.toNat % 16) :: r) = _
      show hexStep (hexOf (c.toNat / 16) :: hexOf (c.toNat % 16) :: r) = _
      have e1 := hexi_hexOf ⟨c.toNat / 16, by omega⟩
      have e2 := hexi_hexOf ⟨c.toNat % 16, by omega⟩
      simp only at e1 e2
      show (if hexi (hexOf (c.toNat / 16)) < 0 ∨ hexi (hexOf (c.toNat % 16)) < 0 then none else some (some (hexByte (hexi (hexOf (c.toNat / 16))) (hexi (hexOf (c.toNat % 16)))), r)) = _
      rw [e1, e2, if_neg (by omega)]
      unfold hexByte
      congr 3
      apply UInt8.toNat_inj.1
      simp; omega
    · show (if c = 39 then some (none, r) else if c = 92 then escStep r else some (some c, r)) = _
      rw [if_neg (fun e => h (.inl e)), if_neg (fun e => h (.inr e))]
theorem pBytes_canon : ∀ (a r : Str) (n : Nat), a.length < n → pBytes n (qbytes a ++ 39 :: r) = some (a, r)
  | [], r, n + 1, _ => rfl
  | c :: a, r, n + 1, h => by
    have ih := pBytes_canon a r n (by simpa using h)
    have e : qbytes (c :: a) ++ 39 :: r = qbyte c ++ (qbytes a ++ 39 :: r) := by simp [qbytes]
    rw [e]
    simp only [pBytes, byteStep_qbyte, ih]
    rfl
theorem hexStep_suffix {r r' : Str} {ob : Option UInt8} (h : hexStep r = some (ob, r')) : ∃ x, r = x ++ r' := by
  match r, h with
  | [], h => cases h
  | [_], h => cases h
  | a :: b :: r2, h =>
    rw [show hexStep (a :: b :: r2) = if hexi a < 0 ∨ hexi b < 0 then none else some (some (hexByte (hexi a) (hexi b)), r2) from rfl] at h
    split at h
    · cases h
    · injection h with h; injection h with _ h; subst h; exact ⟨[a, b], rfl⟩
theorem byteStep_suffix {r r' : Str} {ob : Option UInt8} (h : byteStep r = some (ob, r')) : ∃ x, r = x ++ r' := by
  cases r with
  | nil => cases h
  | cons c r =>
    rw [show byteStep (c :: r) = if c = 39 then some (none, r) else if c = 92 then escStep r else some (some c, r) from rfl] at h
    split at h
    · injection h with h; injection h with _ h; subst h; exact ⟨[c], rfl⟩
    · split at h
      · cases r with
        | nil => cases h
        | cons d r1 =>
          rw [show escStep (d :: r1) = if d = 39 then some (some 39, r1) else if d = 92 then some (some 92, r1) else if d = 120 then hexStep r1 else none from rfl] at h
          split at h
          · injection h with h; injection h with _ h; subst h; exact ⟨[c, d], rfl⟩
          · split at h
            · injection h with h; injection h with _ h; subst h; exact ⟨[c, d], rfl⟩
            · split at h
              · obtain ⟨x, rfl⟩ := hexStep_suffix h; exact ⟨c :: d :: x, rfl⟩
              · cases h
      · injection h with h; injection h with _ h; subst h; exact ⟨[c], rfl⟩
theorem pBytes_suffix : ∀ (n : Nat) (r t r' : Str), pBytes n r = some (t, r') → ∃ x, r = x ++ r'
  | 0, _, _, _, h => by cases h
  | n + 1, r, t, r', h => by
    simp only [pBytes] at h
    split at h
    · cases h
    · rename_i hb
      injection h with h; injection h with _ h; subst h
      exact byteStep_suffix hb
    · rename_i b r1 hb
      obtain ⟨x, rfl⟩ := byteStep_suffix hb
      obtain ⟨⟨t2, r2⟩, hp, hq⟩ := map_some'.1 h
      injection hq with _ hq; subst hq
      obtain ⟨y, rfl⟩ := pBytes_suffix n _ _ _ hp
      exact ⟨x ++ y, by simp⟩
  where map_some' {α β : Type} {f : α → β} {o : Option α} {y : β} : o.map f = some y ↔ ∃ x, o = some x ∧ f x = y := by cases o <;> simp
theorem qbytes_len_ge : ∀ a : Str, a.length ≤ (qbytes a).length
  | [] => Nat.le_refl _
  | c :: a => by
    have := qbytes_len_ge a
    have h1 : 1 ≤ (qbyte c).length := by unfold qbyte; split; simp; split <;> simp
    simp only [qbytes, List.flatMap_cons, List.length_append, List.length_cons] at *
    omega
theorem pQuoted_iff {T r' : Str} {t : Tm} : pQuoted T = some (t, r') ↔ ∃ a, T = qbytes a ++ 39 :: r' ∧ a.length ≤ 64 ∧ plain a = false ∧ t = .mk 2 0 a [] := by
  unfold pQuoted
  constructor
  · intro h
    split at h
    · cases h
    · rename_i a r1 hb
      split at h
      · rename_i hc
        injection h with h; injection h with h1 h2; subst h1 h2
        obtain ⟨x, rfl⟩ := pBytes_suffix _ _ _ _ hb
        obtain ⟨h1, h2, h3⟩ := hc
        refine ⟨a, ?_, h1, h2, rfl⟩
        rw [List.length_append, show x.length + r1.length - r1.length = x.length by omega, List.take_left] at h3
        unfold quote at h3
        injection h3 with _ h3
        rw [← h3]; simp
      · cases h
  · rintro ⟨a, rfl, h1, h2, rfl⟩
    have hl := qbytes_len_ge a
    rw [pBytes_canon a r' _ (by simp; omega)]
    simp only
    rw [if_pos]
    refine ⟨h1, h2, ?_⟩
    have : (qbytes a ++ 39 :: r').length - r'.length = (qbytes a ++ [39]).length := by simp; omega
    rw [this, show qbytes a ++ 39 :: r' = (qbytes a ++ [39]) ++ r' by simp, List.take_left]
    rfl
theorem qbyte_form (b : UInt8) : (qbyte b = [b] ∧ b ≠ 39 ∧ b ≠ 92) ∨ (qbyte b = [92, b] ∧ (b = 39 ∨ b = 92)) ∨ (qbyte b = [92, 120, hexOf (b.toNat / 16), hexOf (b.toNat % 16)]) := by
  unfold qbyte
  split
  · rename_i h; exact .inr (.inl ⟨rfl, h⟩)
  · rename_i h
    split
    · exact .inr (.inr rfl)
    · exact .inl ⟨rfl, fun e => h (.inl e), fun e => h (.inr e)⟩
/-! ### hex -/
def hexV (c : Int) : Int := if 48 ≤ c ∧ c ≤ 57 then c - 48 else if 97 ≤ c ∧ c ≤ 102 then c - 87 else -1
theorem hex_ok {c : Int} (h0 : 0 ≤ c) (h1 : c ≤ 255) (h : Hp) (X : Chain → Hp → Prop) : F_tenureref05_hex.call c h (fun r h' => r = hexV c ∧ h = h') X := by
  refine F_tenureref05_hex.sound ?_
  unfold F_tenureref05_hex.body
  refine F_tenureref05_within.mono (within_ok _ _ _ _ _) ?_ fun _ _ h => h
  rintro r _ ⟨rfl, rfl⟩
  refine ⟨fun hc => ?_, fun hc => ?_⟩
  · simp only [Bool.and_eq_true, decide_eq_true_eq] at hc
    rintro x rfl
    refine ⟨?_, rfl⟩
    rw [wrapu8 (by omega) (by omega), wrap64 (by omega) (by omega)]
    unfold hexV; rw [if_pos (by omega)]
  · have hc : ¬ (48 ≤ c ∧ c ≤ 57) := fun hh => by
      rw [decide_eq_true (show c ≥ 48 from hh.1), decide_eq_true hh.2] at hc; cases hc
    refine F_tenureref05_within.mono (within_ok _ _ _ _ _) ?_ fun _ _ h => h
    rintro r _ ⟨rfl, rfl⟩
    refine ⟨fun hd => ?_, fun hd => ?_⟩
    · simp only [Bool.and_eq_true, decide_eq_true_eq] at hd
      rintro x rfl
      refine ⟨?_, rfl⟩
      rw [wrapu8 (by omega) (by omega), wrap64 (x := c - 97) (by omega) (by omega), wrap64 (by omega) (by omega)]
      unfold hexV; rw [if_neg hc, if_pos (by omega)]; omega
    · have hd : ¬ (97 ≤ c ∧ c ≤ 102) := fun hh => by
        rw [decide_eq_true (show c ≥ 97 from hh.1), decide_eq_true hh.2] at hd; cases hd
      refine ⟨?_, rfl⟩
      unfold hexV; rw [if_neg hc, if_neg hd]
theorem hexV_hexOf : ∀ n : Fin 16, hexV ((hexOf n.val).toNat : Int) = (n.val : Int) := by decide +kernel
theorem wrapu8_range (x : Int) : 0 ≤ IntKind.u8.wrap x ∧ IntKind.u8.wrap x ≤ 255 := by
  show 0 ≤ (if (false && decide (x % 256 ≥ 128)) = true then x % 256 - 256 else x % 256) ∧ (if (false && decide (x % 256 ≥ 128)) = true then x % 256 - 256 else x % 256) ≤ 255
  simp only [Bool.false_and, Bool.false_eq_true, if_false]
  omega
theorem byte_of {x : Int} (h0 : 0 ≤ x) (h1 : x ≤ 255) : ∃ b : UInt8, x = (b.toNat : Int) := ⟨UInt8.ofNat x.toNat, by simp; omega⟩
/-- A step of a canonical text. -/
def Canon (s : Str) (k k' : Nat) (b : UInt8) : Prop := ∀ a r, s.drop k = qbytes a ++ 39 :: r → ∃ a', a = b :: a' ∧ s.drop k' = qbytes a' ++ 39 :: r
theorem qbytes_cons (b : UInt8) (a : Str) : qbytes (b :: a) = qbyte b ++ qbytes a := by simp [qbytes]
theorem canon_split {s : Str} {k : Nat} {c : UInt8} {T a r : Str} (hd : s.drop k = c :: T) (hc : c ≠ 39) (h : s.drop k = qbytes a ++ 39 :: r) : ∃ b a', a = b :: a' ∧ c :: T = qbyte b ++ (qbytes a' ++ 39 :: r) := by
  cases a with
  | nil =>
    rw [hd] at h
    injection h with h _
    exact absurd h hc
  | cons b a' => exact ⟨b, a', rfl, by rw [← hd, h, qbytes_cons, List.append_assoc]⟩
theorem canon_plain {s : Str} {k : Nat} {c : UInt8} {T : Str} (hd : s.drop k = c :: T) (hc : c ≠ 39) (h92 : c ≠ 92) : Canon s k (k + 1) c := by
  intro a r h
  obtain ⟨b, a', rfl, h2⟩ := canon_split hd hc h
  rcases qbyte_form b with ⟨h3, _, _⟩ | ⟨h3, _⟩ | h3
  · rw [h3] at h2
    injection h2 with h4 h5
    subst h4
    exact ⟨a', rfl, by rw [drop_succ_of hd, h5]; rfl⟩
  · rw [h3] at h2; injection h2 with h4 _; exact absurd h4 h92
  · rw [h3] at h2; injection h2 with h4 _; exact absurd h4 h92
theorem canon_esc {s : Str} {k : Nat} {T : Str} {d : Int} {b : UInt8} (hd : s.drop k = 92 :: T) (hn : d = nextB s (k + 1) false) (hx : ¬ (d = 120 ∧ k + 4 ≤ s.length)) (hb : d = (b.toNat : Int)) : Canon s k (k + 2) b := by
  intro a r h
  obtain ⟨b', a', rfl, h2⟩ := canon_split hd (by decide) h
  rcases qbyte_form b' with ⟨h3, _, h92⟩ | ⟨h3, _⟩ | h3
  · rw [h3] at h2; injection h2 with h4 _; exact absurd h4.symm h92
  · rw [h3] at h2
    injection h2 with _ h5
    have hd1 : s.drop (k + 1) = b' :: (qbytes a' ++ 39 :: r) := by rw [drop_succ_of hd, h5]; rfl
    have hlt := drop_cons_lt hd1
    have : d = (b'.toNat : Int) := by
      rw [hn]; unfold nextB
      rw [if_neg (by rintro (h | h); cases h; omega), bt_drop hd1]
    have hbb : b = b' := UInt8.toNat_inj.1 (by omega)
    subst hbb
    exact ⟨a', rfl, by rw [show k + 2 = (k + 1) + 1 by omega, drop_succ_of hd1]⟩
  · rw [h3] at h2
    injection h2 with _ h5
    have hd1 : s.drop (k + 1) = 120 :: (hexOf (b'.toNat / 16) :: hexOf (b'.toNat % 16) :: (qbytes a' ++ 39 :: r)) := by rw [drop_succ_of hd, h5]; rfl
    have hlt := drop_cons_lt hd1
    have hl := congrArg List.length hd1
    rw [List.length_drop] at hl
    simp at hl
    exfalso
    refine hx ⟨?_, by omega⟩
    rw [hn]; unfold nextB
    rw [if_neg (by rintro (h | h); cases h; omega), bt_drop hd1]; rfl
theorem canon_hex {s : Str} {k : Nat} {T : Str} {b : UInt8} (hd : s.drop k = 92 :: T) (hn : nextB s (k + 1) false = 120) (hl : k + 4 ≤ s.length)
    (hb : (b.toNat : Int) = IntKind.u8.wrap (IntKind.i64.wrap ((IntKind.i64.wrap (16 * hexV (bt s ((k + 2 : Nat) : Int)))) + hexV (bt s ((k + 3 : Nat) : Int))))) : Canon s k (k + 4) b := by
  intro a r h
  obtain ⟨b', a', rfl, h2⟩ := canon_split hd (by decide) h
  rcases qbyte_form b' with ⟨h3, _, h92⟩ | ⟨h3, hb'⟩ | h3
  · rw [h3] at h2; injection h2 with h4 _; exact absurd h4.symm h92
  · rw [h3] at h2
    injection h2 with _ h5
    have hd1 : s.drop (k + 1) = b' :: (qbytes a' ++ 39 :: r) := by rw [drop_succ_of hd, h5]; rfl
    have hlt := drop_cons_lt hd1
    unfold nextB at hn
    rw [if_neg (by rintro (h | h); cases h; omega), bt_drop hd1] at hn
    rcases hb' with rfl | rfl <;> simp at hn
  · rw [h3] at h2
    injection h2 with _ h5
    have hd1 : s.drop (k + 1) = 120 :: (hexOf (b'.toNat / 16) :: hexOf (b'.toNat % 16) :: (qbytes a' ++ 39 :: r)) := by rw [drop_succ_of hd, h5]; rfl
    have hd2 := drop_succ_of hd1
    have hd3 := drop_succ_of hd2
    have hd4 := drop_succ_of hd3
    rw [show k + 1 + 1 = k + 2 by omega] at hd2
    rw [show k + 1 + 1 + 1 = k + 3 by omega] at hd3
    rw [show k + 1 + 1 + 1 + 1 = k + 4 by omega] at hd4
    have hc := b'.toNat_lt
    have e1 := hexV_hexOf ⟨b'.toNat / 16, by omega⟩
    have e2 := hexV_hexOf ⟨b'.toNat % 16, by omega⟩
    simp only at e1 e2
    rw [bt_drop hd2, bt_drop hd3, e1, e2, wrap64 (x := 16 * ((b'.toNat / 16 : Nat) : Int)) (by omega) (by omega), wrap64 (x := 16 * ((b'.toNat / 16 : Nat) : Int) + ((b'.toNat % 16 : Nat) : Int)) (by omega) (by omega), wrapu8 (by omega) (by omega)] at hb
    have hbb : b = b' := UInt8.toNat_inj.1 (by omega)
    subst hbb
    exact ⟨a', rfl, hd4⟩
theorem bt_range (s : Str) (i : Int) : 0 ≤ bt s i ∧ bt s i ≤ 255 := by
  unfold bt
  have := (s.getD i.toNat 0).toNat_lt
  omega
theorem bc_one (v u : Value) (b : UInt8) (hu : u ∈ bc b) : u.oneCell' = true := by
  simp only [bc, List.mem_singleton] at hu; subst hu; rfl
end Go.Proofs.YtefbonjcpdjhcaaGreatDoor.X

/- Stage 2: the document's reader: atoms, read. -/
set_option linter.unusedVariables false
set_option maxRecDepth 100000
namespace Go.Proofs.YtefbonjcpdjhcaaGreatDoor.X
open Go Go.RowKit

theorem SlG.strcells {h : Hp} {x : Sl} {out : Str} {O : List Nat} (g : SlG bc 1 5 h x out O) : SlCells h x.a (bytesV out) := by
  rw [bytesV_cells]; exact g.slcells
theorem quoted05r_ok {h : Hp} {p : Nat} {s T : Str} {i : Nat} (r : Rdr h p s i false) (hs : Small s) (hi : i ≤ s.length) (hT : s.drop i = 39 :: T) (X : Chain → Hp → Prop) :
    F_tenureref05_reader_quoted.call (some ⟨p, 0, none⟩) h (fun v h' => Fr [p] h h' ∧ RRes p s h.size h' v (pQuoted T)) X := by
  refine F_tenureref05_reader_quoted.sound ?_
  unfold F_tenureref05_reader_quoted.body
  have hsm : s.length ≤ 1048576 := hs
  have hpl := r.lt
  have hil := drop_cons_lt hT
  have hT1 : s.drop (i + 1) = T := drop_succ_of hT
  refine ⟨_, rfl, fun p1 h2 hn1 ev1 => ?_⟩
  have hn1' := hn1.1
  have hp1 : p ≠ p1 := by omega
  have f2 : Fr [p] h h2 := ev1.fr.sub (fun y hy => .inr (by simp at hy; omega))
  have r2 := r.fr ev1.fr (one_not hp1)
  refine ⟨(i : Int), r2.pos, fun hL2 => ?_⟩
  refine F_tenureref05_reader_eat.mono (eat_ok r2 hs (by omega) (by simp) (by simp) _) ?_ fun _ _ h => h
  rintro h5 ⟨f5, hr5⟩
  rw [if_pos (by rw [hT]; simp [List.isPrefixOf])] at hr5
  have r5 : Rdr h5 p s (i + 1) false := hr5.1
  have hs2 := f2.1
  have hn1'' := hn1.2
  refine ⟨f5.sameOn hL2 (by simp; omega), ?_⟩
  refine ⟨fun x g => ∃ out O k, SlG bc 1 5 g x out O ∧ O.length ≤ 1 ∧ (∀ y ∈ O, h2.size ≤ y) ∧ Rdr g p s k false ∧ i + 1 ≤ k ∧ k ≤ s.length + 1 ∧ out.length ≤ k ∧ Fr [p] h g ∧ h2.size ≤ g.size ∧
    (∀ a r', T = qbytes a ++ 39 :: r' → ∃ a2, a = out ++ a2 ∧ s.drop k = qbytes a2 ++ 39 :: r'), fun _ g => s.length + 2 - posOf g p,
    ⟨[], [], i + 1, ⟨rfl, rfl⟩, by simp, by simp, r5, Nat.le_refl _, by omega, by simp, f2.same f5, f5.1, fun a r' he => ⟨a, rfl, by rw [hT1]; exact he⟩⟩, ?_⟩
  rintro x h7 ⟨out, O, k, hx, hO, hOl, r7, hk1, hk2, hol, f7, hs7, hcan⟩
  have hlen := hx.len
  have hf7 := f7.1
  have hOlt : ∀ y ∈ O, y < h7.size := fun y hy => by
    cases O with
    | nil => cases hy
    | cons z O =>
      obtain rfl : O = [] := by simpa using hO
      simp at hy; subst hy; exact hx.lt
  have hpO : p ∉ O := fun hm => by have := hOl _ hm; omega
  have hp1O : p1 ∉ O := fun hm => by have := hOl _ hm; omega
  refine ⟨false, r7.bad, (k : Int), fun _ => r7.pos, s, fun _ => r7.str, s, fun _ => r7.str, (k : Int), fun _ => r7.pos, fun hc => ?_, fun hc => ?_, fun hc => ?_⟩
  · simp at hc; exact ⟨by omega, by omega⟩
  · -- a byte more
    simp only [Bool.not_false, Bool.true_and, Bool.and_eq_true, decide_eq_true_eq, bne_iff_ne, ne_eq] at hc
    obtain ⟨hkl, h39⟩ := hc
    have hkl : k < s.length := by omega
    obtain ⟨c, rr, hcd⟩ : ∃ c rr, s.drop k = c :: rr := ⟨s[k], s.drop (k + 1), List.drop_eq_getElem_cons hkl⟩
    have hbt : bt s (k : Int) = (c.toNat : Int) := bt_drop hcd
    have hc39 : c ≠ 39 := by rintro rfl; exact h39 (by rw [hbt]; rfl)
    refine ⟨s, r7.str, (k : Int), r7.pos, ⟨by omega, by omega⟩, ?_⟩
    rintro x21 hx21
    rw [hbt] at hx21
    subst hx21
    refine ⟨r7.stp, fun h22 e22 => ?_⟩
    obtain ⟨r22, f22⟩ := r7.go (k + 1) (x := IntKind.i64.wrap ((k : Int) + 1)) (by rw [wrap64 (by omega) (by omega)]; omega) e22
    refine ⟨fun q hq => (by simp at hq; subst hq; exact f22.2 _ (by omega) (by simp; omega)), ?_⟩
    have hs22 := f22.1
    refine ⟨fun y g => ∃ (b : UInt8) (k' : Nat), y = (b.toNat : Int) ∧ Rdr g p s k' false ∧ k < k' ∧ k' ≤ s.length + 1 ∧ Fr [p] h7 g ∧ Canon s k k' b, ⟨fun h92 hL22 => ?_, fun h92 => ?_⟩, ?_⟩
    · rw [show (92 : Int) = (((92 : UInt8).toNat : Nat) : Int) from rfl, u8_int] at h92
      have h92 := of_decide_eq_true h92
      subst h92
      refine F_tenureref05_reader_next.mono (next_ok r22 _) ?_ fun _ _ h => h
      rintro d _ ⟨hd, rfl⟩
      have hdr : 0 ≤ d ∧ d ≤ 255 := by
        rw [hd]; unfold nextB; split
        · omega
        · exact bt_range _ _
      refine ⟨fun _ _ => rfl, (k + 1 : Nat), r22.pos, r22.stp, fun h29 e29 => ?_⟩
      obtain ⟨r29, f29⟩ := r22.go (k + 2) (x := IntKind.i64.wrap (((k + 1 : Nat) : Int) + 1)) (by rw [wrap64 (by omega) (by omega)]; omega) e29
      have f729 := f22.same f29
      have hs29 := f29.1
      refine ⟨fun q hq => (by simp at hq; subst hq; exact f29.2 _ (by omega) (by simp; omega)), ((k + 2 : Nat) : Int), fun _ => r29.pos, s, fun _ => r29.str, fun hx => ?_, fun hx => ?_⟩
      · rw [wrap64 (by omega) (by omega)] at hx
        simp only [Bool.and_eq_true, decide_eq_true_eq, beq_iff_eq] at hx
        have hk4 : k + 4 ≤ s.length := by omega
        have e3 : IntKind.i64.wrap (((k + 2 : Nat) : Int) + 1) = ((k + 3 : Nat) : Int) := by rw [wrap64 (by omega) (by omega)]; omega
        refine ⟨s, r29.str, ((k + 2 : Nat) : Int), r29.pos, ?_⟩
        simp only [e3]
        refine ⟨⟨by omega, by omega⟩, ⟨by omega, by omega⟩, fun hL29 => ?_⟩
        refine F_tenureref05_hex.mono (hex_ok (bt_range _ _).1 (bt_range _ _).2 _ _) ?_ fun _ _ h => h
        rintro v1 _ ⟨rfl, rfl⟩
        refine ⟨fun _ _ => rfl, r29.pos, r29.str, fun _ => ?_⟩
        refine F_tenureref05_hex.mono (hex_ok (bt_range _ _).1 (bt_range _ _).2 _ _) ?_ fun _ _ h => h
        rintro v2 _ ⟨rfl, rfl⟩
        refine ⟨fun _ _ => rfl, ?_⟩
        rintro x43 hx43
        refine ⟨((k + 2 : Nat) : Int), r29.pos, r29.stp, fun h45 e45 => ?_⟩
        obtain ⟨r45, f45⟩ := r29.go (k + 4) (x := IntKind.i64.wrap (((k + 2 : Nat) : Int) + 2)) (by rw [wrap64 (by omega) (by omega)]; omega) e45
        have hr43 : 0 ≤ x43 ∧ x43 ≤ 255 := by rw [hx43]; exact wrapu8_range _
        obtain ⟨b, hb⟩ := byte_of hr43.1 hr43.2
        refine ⟨fun q hq => (by simp at hq; subst hq; exact f45.2 _ (by omega) (by simp; omega)), b, k + 4, hb, r45, by omega, by omega, f729.same f45, ?_⟩
        exact canon_hex hcd (by rw [← hd]; exact hx.1) hk4 (by rw [← hb, hx43])
      · rw [wrap64 (by omega) (by omega)] at hx
        obtain ⟨b, hb⟩ := byte_of hdr.1 hdr.2
        refine ⟨b, k + 2, hb, r29, by omega, by omega, f729, canon_esc hcd hd (fun hh => ?_) hb⟩
        rw [hh.1, decide_eq_true (show ((k + 2 : Nat) : Int) + 2 ≤ (s.length : Int) by omega)] at hx
        cases hx
    · rw [show (92 : Int) = (((92 : UInt8).toNat : Nat) : Int) from rfl, u8_int] at h92
      exact ⟨c, k + 1, rfl, r22, by omega, by omega, f22, canon_plain hcd hc39 (of_decide_eq_false h92)⟩
    · rintro y h25 ⟨b, k', rfl, r25, hkk, hk'l, f25, hcn⟩
      intro p46 h47 hp46 e47
      have f47 := Fr.push e47
      have hs25 := f25.1
      have hx25 : SlG bc 1 5 h25 x out O := hx.fr f25 (fun y hy hm => hpO (by simp at hm; subst hm; exact hy))
      refine AppW.one bc_len (fun b u hu => bc_one u u b hu) hO (hx25.fr f47 (by simp)) (v := b) (Blk.new hp46 e47) (by omega) (by omega) rfl ?_
      intro x' h49 O' g' hO' f49 hs49
      have hs47 := size_push e47
      have hO'l : ∀ y ∈ O', h2.size ≤ y := fun y hy => by
        rcases hs49 y hy with h' | h'
        · exact hOl y h'
        · omega
      refine ⟨fun q hq => (by simp at hq; subst hq; exact f49.2 _ (by omega) hp1O), ⟨out ++ [b], O', k', g', hO', hO'l, (r25.fr f47 (by simp)).fr f49 hpO, by omega, hk'l, by simp; omega, ?_, ?_, ?_⟩, ?_⟩
      · exact ((f7.same f25).step f47).trans f49 (fun y hy => .inr (by have := hOl y hy; omega))
      · have := f49.1; omega
      · intro a r' he
        obtain ⟨a2, ha2, hd2⟩ := hcan a r' he
        obtain ⟨a3, rfl, hd3⟩ := hcn a2 r' hd2
        exact ⟨a3, by rw [ha2]; simp, hd3⟩
      · show s.length + 2 - posOf h49 p < s.length + 2 - posOf h7 p
        rw [((r25.fr f47 (by simp)).fr f49 hpO).posOf, r7.posOf]
        omega
  · -- the end
    have hend : s.length ≤ k ∨ ∃ rr, s.drop k = 39 :: rr := by
      rcases Nat.lt_or_ge k s.length with hkl | hkl
      · right
        obtain ⟨c, rr, hcd⟩ : ∃ c rr, s.drop k = c :: rr := ⟨s[k], s.drop (k + 1), List.drop_eq_getElem_cons hkl⟩
        rw [bt_drop hcd, decide_eq_true (show (k : Int) < (s.length : Int) by omega)] at hc
        simp only [Bool.not_false, Bool.true_and, bne_eq_false_iff_eq] at hc
        have : c = 39 := UInt8.toNat_inj.1 (by have h39 : (39 : UInt8).toNat = 39 := rfl; omega)
        subst this
        exact ⟨rr, hcd⟩
      · exact .inl hkl
    intro hL7
    refine F_tenureref05_reader_eat.mono (eat_ok r7 hs hk2 (by simp) (by simp) _) ?_ fun _ _ h => h
    rintro h50 ⟨f50, hr50⟩
    have hx50 : SlG bc 1 5 h50 x out O := hx.fr f50 (fun y hy hm => hpO (by simp at hm; subst hm; exact hy))
    obtain ⟨j, b, hj, hbj, r50⟩ : ∃ j b, j ≤ s.length + 1 ∧ ((b = false ∧ j = k + 1 ∧ s.drop k = 39 :: s.drop (k + 1) ∧ k + 1 ≤ s.length) ∨ (b = true ∧ ¬ ([39] : Str).isPrefixOf (s.drop k) = true)) ∧ Rdr h50 p s j b := by
      by_cases hg : ([39] : Str).isPrefixOf (s.drop k) = true
      · rw [if_pos (by rw [hg]; rfl)] at hr50
        obtain ⟨rr, hrr⟩ := (isPrefixOf_one _ _).1 hg
        exact ⟨k + 1, false, by have : k + 1 ≤ s.length := hr50.2; omega, .inl ⟨rfl, rfl, by rw [hrr, drop_succ_of hrr], hr50.2⟩, hr50.1⟩
      · rw [if_neg (by simpa using hg)] at hr50
        exact ⟨k, true, hk2, .inr ⟨rfl, hg⟩, hr50⟩
    refine ⟨f50.sameOn hL7 (by simp; omega), out, by rw [hlen], hx50.strcells, fun p52 h54 hn52 ev54 => ?_⟩
    have hs50 := f50.1
    have hn52' := hn52.1
    have f54 : Fr [p] h h54 := (f7.same f50).trans ev54.fr (fun y hy => .inr (by simp at hy; omega))
    have r54 := r50.fr ev54.fr (by simp; omega)
    -- when it is good
    have good : ((!b) && decide (out.length ≤ 64) && decide ((if plain out = true then out else quote out) = sub s (i : Int) (j : Int))) = (pQuoted T).isSome ∧
        (b = false → out.length ≤ 64 → (if plain out = true then out else quote out) = sub s (i : Int) (j : Int) → pQuoted T = some (.mk 2 0 out [], s.drop j)) := by
      have fwd : b = false → out.length ≤ 64 → (if plain out = true then out else quote out) = sub s (i : Int) (j : Int) → pQuoted T = some (.mk 2 0 out [], s.drop j) := by
        intro hb ho ht
        rcases hbj with ⟨_, rfl, hdk, hk1l⟩ | ⟨h1, _⟩
        · have hsub : sub s (i : Int) ((k + 1 : Nat) : Int) = 39 :: T.take (k - i) := by
            unfold sub
            rw [show (((k + 1 : Nat) : Int)).toNat = k + 1 from rfl, show ((i : Int)).toNat = i from rfl, List.drop_take, hT, show k + 1 - i = (k - i) + 1 by omega]; rfl
          rw [hsub] at ht
          have hpo : plain out = false := by
            cases hpo : plain out with
            | false => rfl
            | true =>
              rw [if_pos hpo] at ht
              rw [ht, plain_eq] at hpo
              simp [small] at hpo
          rw [if_neg (by rw [hpo]; simp)] at ht
          unfold quote at ht
          injection ht with _ ht
          refine pQuoted_iff.2 ⟨out, ?_, ho, hpo, rfl⟩
          conv => lhs; rw [← List.take_append_drop (k - i) T]
          rw [← ht, ← hT1, List.drop_drop, show i + 1 + (k - i) = k + 1 by omega]; simp
        · rw [hb] at h1; cases h1
      refine ⟨?_, fwd⟩
      rw [Bool.eq_iff_iff]
      simp only [Bool.and_eq_true, decide_eq_true_eq, Bool.not_eq_true']
      constructor
      · rintro ⟨⟨hb, ho⟩, ht⟩
        rw [fwd hb ho ht]; rfl
      · intro hsome
        obtain ⟨⟨t, r'⟩, hq⟩ := Option.isSome_iff_exists.1 hsome
        obtain ⟨a, ha, hal, hpa, _⟩ := pQuoted_iff.1 hq
        obtain ⟨a2, rfl, hd2⟩ := hcan a r' ha
        have ha2 : a2 = [] := by
          cases a2 with
          | nil => rfl
          | cons b2 a3 =>
            exfalso
            rw [qbytes_cons] at hd2
            rcases hend with hke | ⟨rr, hrr⟩
            · rw [drop_nil_iff.2 hke] at hd2
              have := congrArg List.length hd2
              simp at this
            · rw [hrr] at hd2
              rcases qbyte_form b2 with ⟨h3, h39, _⟩ | ⟨h3, _⟩ | h3
              · rw [h3] at hd2; injection hd2 with h4 _; exact h39 h4.symm
              · rw [h3] at hd2; injection hd2 with h4 _; cases h4
              · rw [h3] at hd2; injection hd2 with h4 _; cases h4
        subst ha2
        rw [List.append_nil] at ha hal hpa
        have hd2 : s.drop k = 39 :: r' := hd2
        rcases hbj with ⟨hb, rfl, hdk, hk1l⟩ | ⟨_, hno⟩
        · refine ⟨⟨hb, hal⟩, ?_⟩
          rw [if_neg (by rw [hpa]; simp)]
          unfold sub
          rw [show (((k + 1 : Nat) : Int)).toNat = k + 1 from rfl, show ((i : Int)).toNat = i from rfl, List.drop_take, hT, ha]
          have hl : k + 1 - i = (39 :: (qbytes out ++ [39]) : Str).length := by
            have h1 := congrArg List.length hd2
            have h2 := congrArg List.length hT1
            rw [ha] at h2
            simp at h1 h2
            simp; omega
          rw [hl, show (39 :: (qbytes out ++ 39 :: r') : Str) = (39 :: (qbytes out ++ [39])) ++ r' by simp, List.take_left]
          rfl
        · exact absurd (by rw [hd2]; simp [List.isPrefixOf]) hno
    obtain ⟨good1, good2⟩ := good
    refine ⟨fun _ g => Fr [p] h g ∧ h54.size ≤ g.size ∧ (if pQuoted T = none then Rdr g p s j true else Rdr g p s j b), ?_, ?_⟩
    · refine ⟨fun y g => y = !((pQuoted T).isSome) ∧ Fr [p] h g ∧ h54.size ≤ g.size ∧ Rdr g p s j b, ⟨b, r54.bad, fun hb => ⟨?_, f54, Nat.le_refl _, r54⟩, fun hb => ⟨fun hl => ⟨?_, f54, Nat.le_refl _, r54⟩, fun hl => ⟨s, r54.str, (j : Int), r54.pos, ?_, fun hL54 => ?_⟩⟩⟩, ?_⟩
      · rw [← good1, hb]; rfl
      · rw [← good1, decide_eq_false (show ¬ out.length ≤ 64 by omega)]; simp
      · rcases hbj with ⟨_, rfl, _, hk1l⟩ | ⟨h1, _⟩
        · exact ⟨by omega, by omega, by omega⟩
        · rw [hb] at h1; cases h1
      · have hso : Small out := by unfold Small; omega
        refine F_tenureref05_Text.mono (Text05_atom hso _) ?_ fun _ _ h => h
        rintro tx h68 ⟨rfl, f68⟩
        have r68 := r54.fr f68 (by simp)
        refine ⟨f68.sameOn hL54 (by simp), r68.pos, r68.str, ?_, f54.step f68, f68.1, r68⟩
        rw [← good1, hb, decide_eq_true (show out.length ≤ 64 by omega)]
        simp only [cmpS, Bool.not_false, Bool.true_and]
        congr 1
        rw [Bool.eq_iff_iff]; simp
      · rintro y h60 ⟨hy, f60, hs60, r60⟩
        refine ⟨fun hyt => ⟨r60.stb, fun h71 e71 => ?_⟩, fun hyf => ?_⟩
        · have hr := r60.set e71
          have hln := hn52.2
          have hs54 := ev54.size
          refine ⟨fun q hq => (by simp at hq; exact hr.2.2 q (by omega) (by simp; omega)), f60.same hr.2, Nat.le_trans hs60 hr.2.1, ?_⟩
          rw [hyt] at hy
          have : pQuoted T = none := by cases hq : pQuoted T with
            | none => rfl
            | some x => rw [hq] at hy; cases hy
          rw [if_pos this]
          exact hr.1
        · rw [hyf] at hy
          refine ⟨f60, hs60, ?_⟩
          rw [if_neg]
          · exact r60
          · intro hq; rw [hq] at hy; cases hy
    · rintro _ h57 ⟨f57, hs57, hr57⟩
      intro h72 ev72
      have hln := hn52.2
      refine ⟨f57.trans ev72.fr (fun y hy => .inr (by simp at hy; omega)), ?_⟩
      cases hq : pQuoted T with
      | none =>
        rw [if_pos hq] at hr57
        exact ⟨j, hj, hr57.fr ev72.fr (by simp; omega)⟩
      | some x =>
        rw [if_neg (by rw [hq]; simp)] at hr57
        rw [hq] at good1
        simp only [Option.isSome_some, Bool.and_eq_true, decide_eq_true_eq, Bool.not_eq_true'] at good1
        obtain ⟨⟨hb, ho⟩, ht⟩ := good1
        have := good2 hb ho ht
        rw [hq] at this
        injection this with this
        subst this
        rcases hbj with ⟨_, rfl, _, hk1l⟩ | ⟨h1, _⟩
        · rw [hb] at hr57
          exact ⟨k + 1, hk1l, hr57.fr ev72.fr (by simp; omega), rfl, rfl, rfl, rfl, [], RepS.nil, trivial⟩
        · rw [hb] at h1; cases h1

/-! ### Plain atoms -/
theorem plain_a_fin : ∀ n : Fin 256, plain [97, UInt8.ofNat n.val] = letter (UInt8.ofNat n.val) := by decide +kernel
theorem plain_a (c : UInt8) : plain [97, c] = letter c := by
  have := plain_a_fin ⟨c.toNat, c.toNat_lt⟩
  simpa using this
theorem plain05r_ok {h : Hp} {p : Nat} {s : Str} {i : Nat} (r : Rdr h p s i false) (hs : Small s) (hi : i ≤ s.length) (X : Chain → Hp → Prop) :
    F_tenureref05_reader_plain.call (some ⟨p, 0, none⟩) h (fun v h' => Fr [p] h h' ∧ RRes p s h.size h' v (pPlain (s.drop i))) X := by
  refine F_tenureref05_reader_plain.sound ?_
  unfold F_tenureref05_reader_plain.body
  have hsm : s.length ≤ 1048576 := hs
  have hmx : maxLen = 9223372036854775807 := rfl
  have hpl := r.lt
  refine ⟨_, rfl, fun p1 h2 hn1 ev1 => ?_⟩
  have hn1' := hn1.1
  have hn1'' := hn1.2
  have hp1 : p ≠ p1 := by omega
  have f2 : Fr [p] h h2 := ev1.fr.sub (fun y hy => .inr (by simp at hy; omega))
  have r2 := r.fr ev1.fr (one_not hp1)
  obtain ⟨jF, hjF⟩ : ∃ jF, jF = i + ((s.drop i).takeWhile letter).length := ⟨_, rfl⟩
  have hjl : jF ≤ s.length := by
    have := takeWhile_le letter (s.drop i)
    rw [List.length_drop] at this
    omega
  refine ⟨(i : Int), r2.pos, fun _ g => ∃ j, i ≤ j ∧ j ≤ jF ∧ Fr [p] h g ∧ h2.size ≤ g.size ∧ Rdr g p s j false, fun _ g => s.length + 1 - posOf g p, ⟨i, Nat.le_refl _, by omega, f2, Nat.le_refl _, r2⟩, ?_⟩
  rintro _ h6 ⟨j, hj1, hj2, f6, hs6, r6⟩
  have hf6 := f6.1
  -- is there a letter more?
  have hmore : ∀ c rr, s.drop j = c :: rr → letter c = decide (j < jF) := by
    intro c rr hcd
    have htw := takeWhile_drop letter (s.drop i) (j - i) (by omega)
    rw [List.drop_drop, show i + (j - i) = j by omega, hcd] at htw
    have hl := congrArg List.length htw
    rw [List.length_drop] at hl
    cases hc : letter c with
    | true =>
      rw [List.takeWhile_cons_of_pos hc] at hl
      simp at hl
      rw [decide_eq_true (show j < jF by omega)]
    | false =>
      rw [List.takeWhile_cons_of_neg (by rw [hc]; simp)] at hl
      simp at hl
      rw [decide_eq_false (show ¬ j < jF by omega)]
  refine ⟨fun y g => y = decide (j < jF) ∧ Fr [p] h g ∧ h2.size ≤ g.size ∧ Rdr g p s j false ∧ Fr [p] h6 g, ⟨(j : Int), r6.pos, s, r6.str, fun hlt => ?_, fun hge => ⟨?_, f6, hs6, r6, Fr.refl _ _⟩⟩, ?_⟩
  · have hlt : j < s.length := by omega
    obtain ⟨c, rr, hcd⟩ : ∃ c rr, s.drop j = c :: rr := ⟨s[j], s.drop (j + 1), List.drop_eq_getElem_cons hlt⟩
    have e1 : IntKind.i64.wrap ((j : Int) + 1) = ((j + 1 : Nat) : Int) := by rw [wrap64 (by omega) (by omega)]; omega
    have hsj : s[j] = c := by
      have h1 := List.drop_eq_getElem_cons hlt
      rw [hcd] at h1
      injection h1 with h1 _
      exact h1.symm
    rw [e1, sub_one hlt, hsj]
    refine ⟨⟨by omega, by omega, by omega⟩, by simp; omega, fun hL6 => ?_⟩
    refine F_tenureref05_Plain.mono (Plain05_ok (s := [97, c]) (by unfold Small; simp) _) ?_ fun _ _ h => h
    rintro q h18 ⟨rfl, f18⟩
    refine ⟨f18.sameOn hL6 (by simp), ?_, f6.step f18, Nat.le_trans hs6 f18.1, r6.fr f18 (by simp), f18.nil⟩
    rw [plain_a, hmore c rr hcd]
  · rw [decide_eq_false (show ¬ j < jF by omega)]
  · rintro y h11 ⟨rfl, f11, hs11, r11, f611⟩
    refine ⟨fun hc => ⟨(j : Int), r11.pos, r11.stp, fun h20 e20 => ?_⟩, fun hc => ?_⟩
    · have hc := of_decide_eq_true hc
      obtain ⟨r20, f20⟩ := r11.go (j + 1) (x := IntKind.i64.wrap ((j : Int) + 1)) (by rw [wrap64 (by omega) (by omega)]; omega) e20
      refine ⟨fun q hq => (by simp at hq; subst hq; exact f20.2 _ (by omega) (by simp; omega)), ⟨j + 1, by omega, by omega, f11.same f20, Nat.le_trans hs11 f20.1, r20⟩, ?_⟩
      show s.length + 1 - posOf h20 p < s.length + 1 - posOf h6 p
      rw [r20.posOf, r6.posOf]; omega
    · have hc := of_decide_eq_false hc
      have hjj : j = jF := by omega
      subst hjj
      refine ⟨s, r11.str, (j : Int), r11.pos, ⟨by omega, by omega, by omega⟩, ?_⟩
      have hsub : sub s (i : Int) (j : Int) = (s.drop i).takeWhile letter := by
        unfold sub
        rw [show ((j : Int)).toNat = j from rfl, show ((i : Int)).toNat = i from rfl, List.drop_take, show j - i = ((s.drop i).takeWhile letter).length by omega]
        exact takeWhile_take _ _
      rw [hsub]
      have hst : Small ((s.drop i).takeWhile letter) := by
        unfold Small
        have := takeWhile_le letter (s.drop i)
        rw [List.length_drop] at this
        omega
      refine ⟨fun _ g => Fr [p] h g ∧ h2.size ≤ g.size ∧ Rdr g p s j (!plain ((s.drop i).takeWhile letter)), fun hL11 => ?_, ?_⟩
      · refine F_tenureref05_Plain.mono (Plain05_ok hst _) ?_ fun _ _ h => h
        rintro q h28 ⟨rfl, f28⟩
        have r28 := r11.fr f28 (by simp)
        have hs28 := f28.1
        refine ⟨f28.sameOn hL11 (by simp), fun hq => ⟨r28.stb, fun h29 e29 => ?_⟩, fun hq => ?_⟩
        · have hr := r28.set e29
          refine ⟨fun q hq => (by simp at hq; subst hq; exact hr.2.2 _ (by omega) (by simp; omega)), (f11.step f28).same hr.2, Nat.le_trans hs11 (Nat.le_trans hs28 hr.2.1), ?_⟩
          rw [hq]; exact hr.1
        · refine ⟨f11.step f28, Nat.le_trans hs11 hs28, ?_⟩
          rw [hq]; exact r28
      · rintro _ h26 ⟨f26, hs26, r26⟩
        intro h30 ev30
        refine ⟨f26.trans ev30.fr (fun y hy => .inr (by simp at hy; omega)), ?_⟩
        have r30 := r26.fr ev30.fr (one_not hp1)
        unfold pPlain
        cases hpl : plain ((s.drop i).takeWhile letter) with
        | false =>
          rw [if_neg (by simp)]
          rw [hpl] at r30
          exact ⟨j, by omega, r30⟩
        | true =>
          rw [if_pos rfl]
          rw [hpl] at r30
          exact ⟨j, hjl, r30, by rw [List.drop_drop, ← hjF], rfl, rfl, rfl, [], RepS.nil, trivial⟩
end Go.Proofs.YtefbonjcpdjhcaaGreatDoor.X

/- Stage 2: going through a slice from behind; lists. -/
set_option linter.unusedVariables false
set_option maxRecDepth 100000
namespace Go.Proofs.YtefbonjcpdjhcaaGreatDoor.X
open Go Go.RowKit

theorem Backward_ok {x : Sl} {h : Hp} (X : Chain → Hp → Prop) : F_slices_Backward_api_Term_api_Term.call x h (fun v h' => ∃ p, p = h.size ∧ v = Value.func (.func 129) #[] #[.pointer (some ⟨p, 0, none⟩)] ∧ Blk h' p [sl x] 22 ∧ Fr [] h h') X := by
  refine F_slices_Backward_api_Term_api_Term.sound ?_
  unfold F_slices_Backward_api_Term_api_Term.body
  intro p h2 hp e
  exact ⟨p, hp, rfl, Blk.new hp e, Fr.push e⟩
/-- What a term is, as the value handed over. -/
abbrev tenc (v : TV) : Value := .agg #[.int .i64 v.Kind, .int .i64 v.N, .string (ba v.S), sl v.L]
theorem Backward_1_ok {h : Hp} {f0 : Nat} {x : Sl} {vs : List TV} {P : Nat → Prop} {y : Value} {X : Chain → Hp → Prop} (I : Nat → Hp → Prop) (hl : vs.length ≤ 1048576)
    (hx : ∀ k h', I k h' → hcells h' ⟨f0, 0, none⟩ [sl x] ∧ RepS tc h' P x vs) (h0 : I vs.length h)
    (hy : ∀ i v h', vs[i]? = some v → I (i + 1) h' → CallV Tryz.prog y [.int .i64 (i : Int), tenc v] h' (fun w h'' => w = .bool true ∧ I i h'') X) :
    F_slices_Backward_api_Term_api_Term_1.call y ⟨f0, 0, none⟩ h (fun h' => I 0 h') X := by
  refine F_slices_Backward_api_Term_api_Term_1.sound ?_
  unfold F_slices_Backward_api_Term_api_Term_1.body
  obtain ⟨hf, hr⟩ := hx _ _ h0
  have hlen := hr.1
  refine ⟨x, hf, fun x2 hx2 => ?_⟩
  rw [wrap64 (by omega) (by omega)] at hx2
  subst hx2
  refine ⟨fun i h' => ∃ k : Nat, i = (k : Int) - 1 ∧ k ≤ vs.length ∧ I k h', fun i _ => (i + 1).toNat, ⟨vs.length, by rw [hlen], Nat.le_refl _, h0⟩, ?_⟩
  rintro _ h4 ⟨k, rfl, hk, hI⟩
  obtain ⟨hf4, hr4⟩ := hx _ _ hI
  refine ⟨fun hge => ⟨x, hf4, ?_⟩, fun hlt => ?_⟩
  · obtain ⟨i, rfl⟩ : ∃ i, k = i + 1 := ⟨k - 1, by omega⟩
    have hil : i < vs.length := by omega
    have hvi : vs[i]? = some vs[i] := List.getElem?_eq_getElem hil
    obtain ⟨a, ha, hc⟩ := hr4.get tc_len hvi
    have e1 : (((i + 1 : Nat) : Int)) - 1 = (i : Int) := by omega
    rw [e1]
    refine IdxW.of (by omega) ha ⟨vs[i], hc, ?_⟩
    refine CallV.mono (hy i _ h4 hvi hI) ?_ fun _ _ h => h
    rintro w h12 ⟨rfl, hI'⟩
    refine ⟨true, rfl, (fun e => nomatch e), fun _ x14 hx14 => ?_⟩
    rw [wrap64 (by omega) (by omega)] at hx14
    subst hx14
    refine ⟨⟨i, rfl, by omega, hI'⟩, ?_⟩
    show ((i : Int) - 1 + 1).toNat < ((i : Int) + 1).toNat
    omega
  · obtain rfl : k = 0 := by omega
    exact hI

/-! ### Lists -/
def mkList : List Tm → Tm → Tm
  | [], t => t
  | x :: xs, t => .mk 9 0 [] [x, mkList xs t]
theorem get_set (h : Hp) (l : Nat) (o : Obj) {b : Nat} (hb : b ≠ l) : (h.setIfInBounds l o)[b]? = h[b]? := Array.getElem?_setIfInBounds_ne (fun e => hb e.symm)
theorem Fr.lset {h h1 : Hp} {l : Nat} {o : Obj} (e : h1 = h.setIfInBounds l o) : Fr [l] h h1 := by
  subst e
  exact ⟨by simp, fun b _ hm => get_set h l o (by simpa using hm)⟩
theorem lset_at {h h1 : Hp} {l : Nat} {o : Obj} (hl : l < h.size) (e : h1 = h.setIfInBounds l o) : h1[l]? = some o := by
  subst e; simp [hl]
theorem RepL.get' {h : Hp} {P : Nat → Prop} : ∀ (l : List Tm) (vs : List TV) (i : Nat) (v : TV), RepL h P vs l → vs[i]? = some v → ∃ t, l[i]? = some t ∧ RepT h P v t
  | t' :: ts, v' :: vs, 0, v, ⟨h1, _⟩, hi => by simp at hi; subst hi; exact ⟨t', rfl, h1⟩
  | t' :: ts, v' :: vs, i + 1, v, ⟨_, h2⟩, hi => by
    obtain ⟨u, hu, hr⟩ := RepL.get' ts vs i v h2 (by simpa using hi)
    exact ⟨u, by simpa using hu, hr⟩
  | _, [], _, _, _, hi => by simp at hi
  | [], _ :: _, _, _, h, _ => h.elim
theorem MakeList_ok {h : Hp} {x : Sl} {vs : List TV} {ts : List Tm} {w : TV} {tl : Tm} {P : Nat → Prop} (hl : vs.length ≤ 1048576) (hP : ∀ b, P b → b < h.size)
    (hx : RepS tc h P x vs) (hts : RepL h P vs ts) (hw : RepT h P w tl) (X : Chain → Hp → Prop) :
    F_term_MakeList.call x w h (fun v h' => RepT h' (fun b => P b ∨ h.size ≤ b) v (mkList ts tl) ∧ Fr [] h h') X := by
  refine F_term_MakeList.sound ?_
  unfold F_term_MakeList.body
  intro p1 h2 hp1 e2 p3 h4 hp3 e4
  have f2 := Fr.push e2
  have f4 := Fr.push e4
  have b1 : Blk h4 p1 (tc w) 24 := (Blk.new hp1 e2).fr f4 (by simp)
  have b3 : Blk h4 p3 (tc ⟨0, 0, [], ⟨none, 0, 0⟩⟩) 24 := Blk.new hp3 e4
  have hs2 := size_push e2
  have hs4 := size_push e4
  refine F_slices_Backward_api_Term_api_Term.mono (Backward_ok _) ?_ fun _ _ h => h
  rintro v h6 ⟨pf, hpf, rfl, bf, f6⟩
  have b1 := b1.fr f6 (by simp)
  have b3 := b3.fr f6 (by simp)
  have f06 : Fr [] h h6 := (f2.step f4).step f6
  have hs6 := bf.lt
  intro D l rc y h7 hD hl7 e7 hy hround
  have f7 : Fr [] h6 h7 := (Fr.push rfl).step (Fr.push e7)
  have hl0 : h7[l]? = some (.loop (rc .ready none)) := push_at (by rw [hl7]; simp) e7
  have hD0 : h7[D]? = some (.deferred (some [])) := by
    have := (Fr.push e7).at_ (push_at (h := h6) (ob := .deferred (some [])) hD rfl) (by simp)
    exact this
  have hs7 : h7.size = h6.size + 2 := by rw [e7]; simp
  have b1 := b1.fr f7 (by simp)
  have b3 := b3.fr f7 (by simp)
  have bf := bf.fr f7 (by simp)
  have f07 : Fr [] h h7 := f06.step f7
  have hlv : vs.length = ts.length := RepL.length ts vs hts
  have hcut : CallH Tryz.prog 129 #[y, .pointer (some ⟨pf, 0, none⟩)] h7 (fun _ h8 => h8[l]? = some (.loop (rc .ready none)) ∧ h8[D]? = some (.deferred (some [])) ∧ Fr [p1, l] h7 h8 ∧
      ∃ u, Blk h8 p1 (tc u) 24 ∧ RepT h8 (fun b => P b ∨ h7.size ≤ b) u (mkList ts tl)) noX := by
    have main := Backward_1_ok (X := noX) (f0 := pf) (x := x) (vs := vs) (P := P) (y := y) (h := h7) (fun k h' => h'[l]? = some (.loop (rc .ready none)) ∧ h'[D]? = some (.deferred (some [])) ∧ Fr [p1, l] h7 h' ∧
      ∃ u, Blk h' p1 (tc u) 24 ∧ RepT h' (fun b => P b ∨ h7.size ≤ b) u (mkList (ts.drop k) tl)) hl ?_ ?_ ?_
    · refine CallH.mono main ?_ fun _ _ h => h
      rintro _ h8 ⟨_, h81, h82, h83, h84⟩
      exact ⟨h81, h82, h83, by simpa using h84⟩
    · rintro k h' ⟨_, _, f', _⟩
      have hne : ∀ b, P b → b ∉ [p1, l] := fun b hb => by have := hP b hb; simp; omega
      exact ⟨(bf.fr f' (by simp; omega)).cells0 rfl, (hx.fr f07 (by simp)).fr f' hne⟩
    · refine ⟨hl0, hD0, Fr.refl _ _, w, b1, ?_⟩
      rw [hlv, List.drop_length]
      exact RepT.mono (fun b hb => .inl hb) _ _ (RepT.fr f07 (by simp) _ _ hw)
    · rintro i v g hvi ⟨hgl, hgD, fg, u, bu, hu⟩
      obtain ⟨t, hti, hvt⟩ := RepL.get' ts vs i v hts hvi
      refine CallV.mono (hround ((i : Int), v) g (fun b h'' => b = true ∧ h''[l]? = some (.loop (rc .ready none)) ∧ h''[D]? = some (.deferred (some [])) ∧ Fr [p1, l] h7 h'' ∧
        ∃ u, Blk h'' p1 (tc u) 24 ∧ RepT h'' (fun b => P b ∨ h7.size ≤ b) u (mkList (ts.drop i) tl)) hgl ?_) ?_ fun _ _ h => h
      · intro p12 h13 hp12 e13
        have f13 := Fr.push e13
        have b12 : Blk h13 p12 (tc ⟨0, 0, [], ⟨none, 0, 0⟩⟩) 24 := Blk.new hp12 e13
        refine ⟨b12.storable0 4 (Nat.le_refl _), fun h14 e14 => ?_⟩
        have f14 := Fr.sets e14
        have b12 := b12.set0 (vs := tc v) (Nat.le_refl _) e14
        have hgs := fg.1
        have hlt := bu.lt
        have hl14 : h14[l]? = some (.loop (rc .ready none)) := f14.at_ (f13.at_ hgl (by simp)) (by simp; omega)
        refine ⟨hl14, fun h15 e15 => ?_⟩
        have f15 := Fr.lset e15
        have b12 : Blk h15 p12 (tc v) 24 := b12.fr f15 (by simp; omega)
        have b115 : Blk h15 p1 (tc u) 24 := ((bu.fr f13 (by simp)).fr f14 (by simp; omega)).fr f15 (by simp; omega)
        refine ⟨v, b12.cells0 rfl, u, b115.cells0 rfl, fun p18 h19 hp18 e19 => ?_⟩
        have f19 := Fr.push e19
        have b119 := b115.fr f19 (by simp)
        have b18 : Blk h19 p18 (tc v ++ tc u) 24 := Blk.new hp18 e19
        refine ⟨b119.storable0 4 (Nat.le_refl _), fun h20 e20 => ?_⟩
        have f20 := Fr.sets e20
        have b120 := b119.set0 (vs := tc ⟨9, 0, [], ⟨some ⟨p18, 0, none⟩, 2, 2⟩⟩) (Nat.le_refl _) e20
        have hs13 := size_push e13
        have hs14 := f14.1
        have hs15 := f15.1
        have b1820 := b18.fr f20 (by simp; omega)
        have hl20 : h20[l]? = some (.loop (rc .busy none)) := f20.at_ (f19.at_ (lset_at (lt_of_at hl14) e15) (by simp)) (by simp; omega)
        refine ⟨hl20, fun h21 e21 => ?_⟩
        have f21 := Fr.lset e21
        have hD21 : h21[D]? = some (.deferred (some [])) := f21.at_ (f20.at_ (f19.at_ (f15.at_ (f14.at_ (f13.at_ hgD (by simp)) (by simp; omega)) (by simp; omega)) (by simp)) (by simp; omega)) (by simp; omega)
        have fgo : Fr [p1, l] h7 h21 := by
          have a1 : Fr [p1, l] h7 h14 := (fg.step f13).trans f14 (fun y hy => .inr (by simp at hy; omega))
          have a2 : Fr [p1, l] h7 h15 := a1.trans f15 (fun y hy => .inl (by simp at hy; simp [hy]))
          have a3 : Fr [p1, l] h7 h20 := (a2.step f19).trans f20 (fun y hy => .inl (by simp at hy; simp [hy]))
          exact a3.trans f21 (fun y hy => .inl (by simp at hy; simp [hy]))
        have fgu : Fr [p1, l] g h21 := by
          have a1 : Fr [p1, l] g h14 := ((Fr.refl _ g).step f13).trans f14 (fun y hy => .inr (by simp at hy; omega))
          have a2 : Fr [p1, l] g h15 := a1.trans f15 (fun y hy => .inl (by simp at hy; simp [hy]))
          have a3 : Fr [p1, l] g h20 := (a2.step f19).trans f20 (fun y hy => .inl (by simp at hy; simp [hy]))
          exact a3.trans f21 (fun y hy => .inl (by simp at hy; simp [hy]))
        have hne : ∀ b, P b ∨ h7.size ≤ b → b ∉ [p1, l] := fun b hb => by
          rcases hb with hb | hb
          · have := hP b hb; simp; omega
          · simp; omega
        refine ⟨rfl, lset_at (lt_of_at hl20) e21, hD21, fgo, _, b120.fr f21 (by simp; omega), ?_⟩
        obtain ⟨hti1, hti2⟩ := List.getElem?_eq_some_iff.1 hti
        rw [List.drop_eq_getElem_cons hti1, hti2]
        refine ⟨rfl, rfl, rfl, [v, u], ⟨rfl, Nat.le_refl _, fun _ => ⟨p18, 0, rfl, .inr (by omega), ?_⟩⟩, ?_, ?_, trivial⟩
        · have := (b1820.fr f21 (by simp; omega)).cells0 (vs := tc v ++ tc u) (List.take_of_length_le (Nat.le_refl _))
          simpa [cellsOf] using this
        · exact RepT.mono (fun b hb => .inl hb) _ _ (RepT.fr (f07.trans fgo (fun y hy => .inr (by simp at hy; omega))) (by simp) _ _ hvt)
        · exact RepT.fr fgu hne _ _ hu
      · rintro _ h' ⟨b, rfl, rfl, hI⟩
        exact ⟨rfl, hI⟩
  refine CallE.func (hr := by intro _ _; kernel_rfl) (CallH.mono hcut ?_ fun _ _ h => h)
  rintro _ h8 ⟨hl8, hD8, f8, u, bu, hu⟩
  refine .inl ⟨hl8, fun h9 e9 => ?_⟩
  have f9 := Fr.lset e9
  have hp1l : p1 ≠ l := by omega
  have hbu9 := bu.fr f9 (one_not hp1l)
  have b39 := (b3.fr f8 (by simp; omega)).fr f9 (by simp; omega)
  refine ⟨u, hbu9.cells0 rfl, b39.storable0 4 (Nat.le_refl _), fun h10 e10 => ?_⟩
  have f10 := Fr.sets e10
  have b310 := b39.set0 (vs := tc u) (Nat.le_refl _) e10
  have hDl : D ≠ l := by omega
  refine ⟨f10.at_ (f9.at_ hD8 (by simpa using hDl)) (by simp; omega), fun h11 e11 => ?_⟩
  have f11 := Fr.lset e11
  have b311 := b310.fr f11 (by simp; omega)
  have hne : ∀ b, P b ∨ h7.size ≤ b → b ∉ [l] ∧ b ∉ [p3] ∧ b ∉ [D] := fun b hb => by
    rcases hb with hb | hb
    · have := hP b hb; simp; omega
    · simp; omega
  refine ⟨u, b311.cells0 rfl, ?_, ?_⟩
  · have a1 := RepT.fr f9 (fun b hb => (hne b hb).1) _ _ hu
    have a2 := RepT.fr f10 (fun b hb => (hne b hb).2.1) _ _ a1
    have a3 := RepT.fr f11 (fun b hb => (hne b hb).2.2) _ _ a2
    refine RepT.mono (fun b hb => ?_) _ _ a3
    rcases hb with hb | hb
    · exact .inl hb
    · exact .inr (by omega)
  · have a1 : Fr [] h h8 := f07.trans f8 (fun y hy => .inr (by simp at hy; omega))
    have a2 : Fr [] h h9 := a1.trans f9 (fun y hy => .inr (by simp at hy; omega))
    have a3 : Fr [] h h10 := a2.trans f10 (fun y hy => .inr (by simp at hy; omega))
    exact a3.trans f11 (fun y hy => .inr (by simp at hy; omega))
end Go.Proofs.YtefbonjcpdjhcaaGreatDoor.X

/- Stage 2: the program's reader: terms, by fuel. -/
set_option linter.unusedVariables false
set_option maxRecDepth 100000
namespace Go.Proofs.YtefbonjcpdjhcaaGreatDoor.X
open Go Go.RowKit

abbrev PT := Str → Option (Tm × Str)
abbrev PL := Str → Option (List Tm × Str)
/-- Terms with commas between, up to an end. -/
def pAllW (T : PT) (M : PL) (e : Str) : PL := fun r =>
  if e.isPrefixOf r then some ([], r.drop e.length)
  else match T r with
    | none => none
    | some (t, r1) => match M r1 with
      | none => none
      | some (ts, r2) => if e.isPrefixOf r2 ∧ (t :: ts).length ≤ 64 then some (t :: ts, r2.drop e.length) else none
def nilT : Tm := .mk 8 0 [] []
def pTailW (T : PT) (r : Str) : Option (Tm × Str) :=
  if ([124] : Str).isPrefixOf r then
    match T (r.drop 1) with
    | none => none
    | some (t, r1) => if t.kind = 9 ∨ t.kind = 8 then none else some (t, r1)
  else some (nilT, r)
def pListW (T : PT) (M : PL) : PT := fun r =>
  if ([93] : Str).isPrefixOf r then some (nilT, r.drop 1)
  else match T r with
    | none => none
    | some (t, r1) => match M r1 with
      | none => none
      | some (ts, r2) => match pTailW T r2 with
        | none => none
        | some (tl, r3) => if ([93] : Str).isPrefixOf r3 then some (mkList (t :: ts) tl, r3.drop 1) else none
def pNamed (kind : Int) (e : Str) : PT := fun r =>
  match pNum 0 1073741824 r with
  | none => none
  | some (n, r1) => if e.isPrefixOf r1 then some (.mk kind n [] [], r1.drop e.length) else none
def pFunW (M : PL) : PT := fun r =>
  match pNum 0 1073741824 r with
  | none => none
  | some (n, r1) => match M r1 with
    | none => none
    | some (ts, r2) => if ([62] : Str).isPrefixOf r2 ∧ ts.length ≤ 64 then some (.mk 5 n [] ts, r2.drop 1) else none
def isSmall : Str → Bool
  | [] => false
  | c :: _ => small c
def pTermW (T : PT) (M : PL) : PT := fun r =>
  if ([123] : Str).isPrefixOf r then (pAllW T M [125] (r.drop 1)).map fun q => (.mk 7 0 [] q.1, q.2)
  else if ([91] : Str).isPrefixOf r then pListW T M (r.drop 1)
  else if ([39] : Str).isPrefixOf r then pQuoted (r.drop 1)
  else if ([35, 82, 101, 102, 60] : Str).isPrefixOf r then pNamed 3 [62] (r.drop 5)
  else if ([35, 84, 105, 100, 60] : Str).isPrefixOf r then pNamed 4 [62] (r.drop 5)
  else if ([60, 48, 46] : Str).isPrefixOf r then pNamed 6 [46, 48, 62] (r.drop 3)
  else if ([35, 70, 117, 110, 60] : Str).isPrefixOf r then pFunW M (r.drop 5)
  else if isSmall r then pPlain r
  else (pNum (-576460752303423488) 576460752303423487 r).map fun q => (.mk 1 q.1 [] [], q.2)
def pMoreW (T : PT) (M : PL) : PL := fun r =>
  if ([44] : Str).isPrefixOf r then
    match T (r.drop 1) with
    | none => none
    | some (t, r1) => (M r1).map fun q => (t :: q.1, q.2)
  else some ([], r)
mutual
def pTerm : Nat → PT
  | 0 => fun _ => none
  | n + 1 => pTermW (pTerm n) (pMore n)
def pMore : Nat → PL
  | 0 => fun _ => none
  | n + 1 => pMoreW (pTerm n) (pMore n)
end
/-! ### Something is read -/
theorem drop_lt {r e : Str} (h : e.isPrefixOf r = true) (he : e ≠ []) : (r.drop e.length).length < r.length := by
  have := (List.isPrefixOf_iff_prefix.1 h).length_le
  have : 0 < e.length := List.length_pos_iff.2 he
  rw [List.length_drop]; omega
theorem pNum_len {lo hi n : Int} {r r1 : Str} (h : pNum lo hi r = some (n, r1)) : r1.length < r.length := by
  unfold pNum at h
  split at h
  · rename_i m hm
    split at h
    · injection h with h; injection h with _ h; subst h
      have hne : numTok r ≠ [] := by
        intro e
        rw [e] at hm
        cases hm
      have h1 := congrArg List.length (numTok_take r)
      have h2 : 0 < (numTok r).length := List.length_pos_iff.2 hne
      rw [List.length_take] at h1
      rw [List.length_drop]; omega
    · cases h
  · cases h
theorem pPlain_len {t : Tm} {r r1 : Str} (h : pPlain r = some (t, r1)) : r1.length < r.length := by
  unfold pPlain at h
  split at h
  · rename_i hp
    injection h with h; injection h with _ h; subst h
    have hne : r.takeWhile letter ≠ [] := by
      intro e
      rw [e] at hp
      cases hp
    have h1 := takeWhile_le letter r
    have h2 : 0 < (r.takeWhile letter).length := List.length_pos_iff.2 hne
    rw [List.length_drop]; omega
  · cases h
theorem pBytes_len : ∀ (n : Nat) (r t r1 : Str), pBytes n r = some (t, r1) → r1.length < r.length
  | 0, _, _, _, h => by cases h
  | n + 1, r, t, r1, h => by
    simp only [pBytes] at h
    split at h
    · cases h
    · rename_i hb
      injection h with h; injection h with _ h; subst h
      exact byteStep_len hb
    · rename_i b r' hb
      have h1 := byteStep_len hb
      cases hp : pBytes n r' with
      | none => rw [hp] at h; cases h
      | some q =>
        rw [hp] at h
        injection h with h; injection h with _ h
        have := pBytes_len n r' q.1 q.2 hp
        rw [h] at this
        omega
theorem pQuoted_len {t : Tm} {r r1 : Str} (h : pQuoted r = some (t, r1)) : r1.length < r.length := by
  unfold pQuoted at h
  split at h
  · cases h
  · rename_i hb
    split at h
    · injection h with h; injection h with _ h; subst h
      exact pBytes_len _ _ _ _ hb
    · cases h
end Go.Proofs.YtefbonjcpdjhcaaGreatDoor.X

/- Stage 2: the program's reader: terms: what is left gets shorter; tuples. -/
set_option linter.unusedVariables false
set_option maxRecDepth 100000
namespace Go.Proofs.YtefbonjcpdjhcaaGreatDoor.X
open Go Go.RowKit

def TLen (T : PT) : Prop := ∀ r t r1, T r = some (t, r1) → r1.length < r.length
def MLen (M : PL) : Prop := ∀ r l r1, M r = some (l, r1) → r1.length ≤ r.length
theorem drop_le (r : Str) (k : Nat) : (r.drop k).length ≤ r.length := by rw [List.length_drop]; omega
theorem pMoreW_len {T : PT} {M : PL} (hT : TLen T) (hM : MLen M) : MLen (pMoreW T M) := by
  intro r l r1 h
  unfold pMoreW at h
  split at h
  · split at h
    · cases h
    · rename_i t r2 ht
      cases hm : M r2 with
      | none => rw [hm] at h; cases h
      | some q =>
        rw [hm] at h
        injection h with h; injection h with _ h; subst h
        have h1 := hT _ _ _ ht
        have h2 := hM _ _ _ hm
        have h3 := drop_le r 1
        omega
  · injection h with h; injection h with _ h; subst h; exact Nat.le_refl _
theorem pAllW_len {T : PT} {M : PL} (hT : TLen T) (hM : MLen M) {e r r1 : Str} {l : List Tm} (h : pAllW T M e r = some (l, r1)) : r1.length ≤ r.length := by
  unfold pAllW at h
  split at h
  · injection h with h; injection h with _ h; subst h; exact drop_le _ _
  · split at h
    · cases h
    · rename_i t r2 ht
      split at h
      · cases h
      · rename_i ts r3 hm
        split at h
        · injection h with h; injection h with _ h; subst h
          have h1 := hT _ _ _ ht
          have h2 := hM _ _ _ hm
          have h3 := drop_le r3 e.length
          omega
        · cases h
theorem pListW_len {T : PT} {M : PL} (hT : TLen T) (hM : MLen M) {r r1 : Str} {t : Tm} (h : pListW T M r = some (t, r1)) : r1.length ≤ r.length := by
  unfold pListW at h
  split at h
  · injection h with h; injection h with _ h; subst h; exact drop_le _ _
  · split at h
    · cases h
    · rename_i t r2 ht
      split at h
      · cases h
      · rename_i ts r3 hm
        split at h
        · cases h
        · rename_i tl r4 htl
          have h4 : r4.length ≤ r3.length := by
            unfold pTailW at htl
            split at htl
            · split at htl
              · cases htl
              · rename_i t' r5 ht'
                split at htl
                · cases htl
                · injection htl with htl; injection htl with _ htl; subst htl
                  have h1 := hT _ _ _ ht'
                  have h2 := drop_le r3 1
                  omega
            · injection htl with htl; injection htl with _ htl; subst htl; exact Nat.le_refl _
          split at h
          · injection h with h; injection h with _ h; subst h
            have h1 := hT _ _ _ ht
            have h2 := hM _ _ _ hm
            have h3 := drop_le r4 1
            omega
          · cases h
theorem pNamed_len {k : Int} {e r r1 : Str} {t : Tm} (h : pNamed k e r = some (t, r1)) : r1.length ≤ r.length := by
  unfold pNamed at h
  split at h
  · cases h
  · rename_i n r2 hn
    split at h
    · injection h with h; injection h with _ h; subst h
      have h1 := pNum_len hn
      have h2 := drop_le r2 e.length
      omega
    · cases h
theorem pFunW_len {M : PL} (hM : MLen M) {r r1 : Str} {t : Tm} (h : pFunW M r = some (t, r1)) : r1.length ≤ r.length := by
  unfold pFunW at h
  split at h
  · cases h
  · rename_i n r2 hn
    split at h
    · cases h
    · rename_i ts r3 hm
      split at h
      · injection h with h; injection h with _ h; subst h
        have h1 := pNum_len hn
        have h2 := hM _ _ _ hm
        have h3 := drop_le r3 1
        omega
      · cases h
theorem pTermW_len {T : PT} {M : PL} (hT : TLen T) (hM : MLen M) : TLen (pTermW T M) := by
  intro r t r1 h
  unfold pTermW at h
  split at h
  · rename_i hp
    have hd := drop_lt hp (by simp)
    cases hq : pAllW T M [125] (r.drop 1) with
    | none => rw [hq] at h; cases h
    | some q =>
      rw [hq] at h
      injection h with h; injection h with _ h; subst h
      exact Nat.lt_of_le_of_lt (pAllW_len hT hM hq) hd
  · split at h
    · rename_i hp
      exact Nat.lt_of_le_of_lt (pListW_len hT hM h) (drop_lt hp (by simp))
    · split at h
      · rename_i hp
        exact Nat.lt_trans (pQuoted_len h) (drop_lt hp (by simp))
      · split at h
        · rename_i hp
          exact Nat.lt_of_le_of_lt (pNamed_len h) (drop_lt hp (by simp))
        · split at h
          · rename_i hp
            exact Nat.lt_of_le_of_lt (pNamed_len h) (drop_lt hp (by simp))
          · split at h
            · rename_i hp
              exact Nat.lt_of_le_of_lt (pNamed_len h) (drop_lt hp (by simp))
            · split at h
              · rename_i hp
                exact Nat.lt_of_le_of_lt (pFunW_len hM h) (drop_lt hp (by simp))
              · split at h
                · exact pPlain_len h
                · cases hq : pNum (-576460752303423488) 576460752303423487 r with
                  | none => rw [hq] at h; cases h
                  | some q =>
                    rw [hq] at h
                    injection h with h; injection h with _ h; subst h
                    exact pNum_len hq
theorem p_len : ∀ n, TLen (pTerm n) ∧ MLen (pMore n)
  | 0 => ⟨fun _ _ _ h => (by cases h), fun _ _ _ h => (by cases h)⟩
  | n + 1 => ⟨pTermW_len (p_len n).1 (p_len n).2, pMoreW_len (p_len n).1 (p_len n).2⟩

/-! ### The contract of term, for the fuel n -/
def TermC (n : Nat) : Prop := ∀ (h : Hp) (p : Nat) (s : Str) (i : Nat), Gl h → 8 ≤ p → Cur h p s i → Small s → 2 * (s.drop i).length < n →
  F_text_cursor_term.call (some ⟨p, 0, none⟩) h (fun v h' => ∃ t r, pTerm n (s.drop i) = some (t, r) ∧ RepT h' (fun b => h.size ≤ b) v t ∧ Fr [p] h h' ∧ ∃ j, Cur h' p s j ∧ s.drop j = r)
    (fun ch h' => ch = flt ∧ pTerm n (s.drop i) = none ∧ Fr [p] h h')
theorem RepS.bound {h : Hp} {P : Nat → Prop} {x : Sl} {vs : List TV} (g : RepS tc h P x vs) : RepS tc h (fun b => P b ∧ b < h.size) x vs :=
  ⟨g.1, g.2.1, fun hv => by
    obtain ⟨b, off, h1, h2, h3⟩ := g.2.2 hv
    refine ⟨b, off, h1, ⟨h2, ?_⟩, h3⟩
    cases vs with
    | nil => exact absurd rfl hv
    | cons v vs =>
      have := h3 0 (.int .i64 v.Kind) (by simp [cellsOf, V_api_Term.cells])
      unfold hcell at this
      rcases Nat.lt_or_ge b h.size with hl | hl
      · exact hl
      · rw [show ((⟨b, off, none⟩ : Addr).add 0).block = b from rfl, Array.getElem?_eq_none hl] at this; cases this⟩
mutual
theorem RepT.bound {h : Hp} {P : Nat → Prop} : ∀ (t : Tm) (v : TV), RepT h P v t → RepT h (fun b => P b ∧ b < h.size) v t
  | .mk k n s l, v, ⟨h1, h2, h3, vs, h4, h5⟩ => ⟨h1, h2, h3, vs, h4.bound, RepL.bound l vs h5⟩
theorem RepL.bound {h : Hp} {P : Nat → Prop} : ∀ (l : List Tm) (vs : List TV), RepL h P vs l → RepL h (fun b => P b ∧ b < h.size) vs l
  | [], [], _ => trivial
  | t :: ts, v :: vs, ⟨h1, h2⟩ => ⟨RepT.bound t v h1, RepL.bound ts vs h2⟩
  | [], _ :: _, h => h.elim
  | _ :: _, [], h => h.elim
end
/-- The slice grown so far, with its terms. L: where the call's own blocks begin. -/
structure Acc (L : Nat) (h : Hp) (x : Sl) (ts : List Tm) (O : List Nat) : Prop where
  one : O.length ≤ 1
  low : ∀ y ∈ O, L ≤ y
  le : L ≤ h.size
  rep : ∃ vs, SlG tc 4 24 h x vs O ∧ RepL h (fun b => L ≤ b ∧ b ∉ O) vs ts
theorem Acc.fr {L : Nat} {h h' : Hp} {x : Sl} {ts : List Tm} {O M : List Nat} (a : Acc L h x ts O) (f : Fr M h h') (hm : ∀ y ∈ M, y < L) : Acc L h' x ts O := by
  obtain ⟨vs, g, r⟩ := a.rep
  refine ⟨a.one, a.low, Nat.le_trans a.le f.1, vs, g.fr f (fun y hy hym => by have := a.low y hy; have := hm y hym; omega), RepL.fr f (fun b hb hbm => by have := hm b hbm; omega) _ _ r⟩
theorem Acc.app {L : Nat} {h h1 : Hp} {x : Sl} {ts : List Tm} {O : List Nat} {v : TV} {t : Tm} {p : Nat} {K : Sl → Hp → Prop} (a : Acc L h x ts O) (hv : RepT h (fun b => L ≤ b ∧ b ∉ O) v t) (hp : p = h.size) (e : h1 = h.push (.cells (tc v).toArray 24)) (hl : ts.length ≤ 1048576)
    (hh : ∀ x' h' O', Acc L h' x' (ts ++ [t]) O' → Fr O h h' → K x' h') : AppW h1 24 4 56 [.int .i64 0, .int .i64 0, .string (ba ([] : Str)), sl (⟨none, 0, 0⟩ : Sl)] x (⟨some ⟨p, 0, none⟩, 1, 1⟩ : Sl) K := by
  obtain ⟨vs, g, r⟩ := a.rep
  have f1 := Fr.push e
  have hlen := RepL.length _ _ r
  refine AppW.one tc_len tc_one a.one (g.fr f1 (by simp)) (Blk.new hp e) (by omega) (by omega) rfl ?_
  intro x' h' O' g' hO' f' hs
  have hOlt : ∀ y ∈ O, y < h.size := fun y hy => by
    cases O with
    | nil => cases hy
    | cons z O =>
      obtain rfl : O = [] := by simpa using a.one
      simp at hy; subst hy; exact g.lt
  have hle := a.le
  refine hh x' h' O' ⟨hO', fun y hy => ?_, Nat.le_trans (Nat.le_trans a.le f1.1) f'.1, vs ++ [v], g', ?_⟩ (((Fr.refl O h).step f1).same f')
  · rcases hs y hy with h2 | h2
    · exact a.low y h2
    · have := f1.1; omega
  · have hsz := size_push e
    have key : ∀ (b : Nat), (L ≤ b ∧ b ∉ O) → b < h.size → L ≤ b ∧ b ∉ O' := fun b hb hlt => ⟨hb.1, fun hm => by
      rcases hs b hm with h2 | h2
      · exact hb.2 h2
      · omega⟩
    have r1 : RepL h (fun b => (L ≤ b ∧ b ∉ O) ∧ b < h.size) (vs ++ [v]) (ts ++ [t]) := RepL.bound _ _ (RepL.append _ _ _ _ r ⟨hv, trivial⟩)
    have r2 := RepL.fr (((Fr.refl O h).step f1).same f') (fun b hb => hb.1.2) _ _ r1
    exact RepL.mono (fun b hb => key b hb.1 hb.2) _ _ r2
end Go.Proofs.YtefbonjcpdjhcaaGreatDoor.X

/- Stage 2: the program's reader: what has a number within; tuples. -/
set_option linter.unusedVariables false
set_option maxRecDepth 100000
namespace Go.Proofs.YtefbonjcpdjhcaaGreatDoor.X
open Go Go.RowKit

/-- What a reader of terms does. -/
def ReadsT (p : Nat) (s : Str) (h : Hp) (res : Option (Tm × Str)) (v : TV) (h' : Hp) : Prop :=
  ∃ t r, res = some (t, r) ∧ RepT h' (fun b => h.size ≤ b) v t ∧ Fr [p] h h' ∧ ∃ j, Cur h' p s j ∧ s.drop j = r
def FailsT (p : Nat) {T : Type} (h : Hp) (res : Option T) (ch : Chain) (h' : Hp) : Prop := ch = flt ∧ res = none ∧ Fr [p] h h'
theorem two_not {p q r : Nat} (h1 : p ≠ q) (h2 : p ≠ r) : p ∉ [q, r] := by simp; omega
theorem cursor_named_ok {h : Hp} {p : Nat} {s e : Str} {i : Nat} {kind : Int} (g : Gl h) (hp8 : 8 ≤ p) (c : Cur h p s i) (hs : Small s) :
    F_text_cursor_named.call (some ⟨p, 0, none⟩) kind e h (fun v h' => ReadsT p s h (pNamed kind e (s.drop i)) v h') (fun ch h' => FailsT p h (pNamed kind e (s.drop i)) ch h') := by
  refine F_text_cursor_named.sound ?_
  unfold F_text_cursor_named.body
  have hplt := c.1.lt
  intro p1 h2 hn he hL
  have hpp : p ≠ p1 := by have := hn.1; omega
  have f2 : Fr [p] h h2 := (Fr.refl _ h).ev he (one_ge hn.1)
  have c2 : Cur h2 p s i := c.fr he.fr (one_not hpp)
  have g2 : Gl h2 := g.fr f2 (by simpa using hp8)
  refine F_text_cursor_number.mono (cursor_number_ok g2 hp8 c2 hs) ?_ ?_
  · rintro n h4 ⟨hnum, f4, c4⟩
    refine ⟨f4.sameOn hL (one_ne (Ne.symm hpp)), fun p5 h7 hn5 he5 hL7 => ?_⟩
    have hle4 : h.size ≤ h4.size := Nat.le_trans f2.1 f4.1
    have hpp5 : p ≠ p5 := by have := hn5.1; omega
    have f7 : Fr [p] h h7 := (f2.same f4).trans he5.fr (fun x hx => .inr (by simp at hx; have := hn5.1; have := hn.1; omega))
    have c7 := c4.fr he5.fr (two_not hpp5 hpp)
    refine F_text_cursor_must.mono (cursor_must_ok c7 hs) ?_ ?_
    · rintro h8 ⟨hpre, f8, c8⟩
      refine ⟨f8.sameOn hL7 (by simp; omega), fun h9 he9 => ?_⟩
      refine ⟨.mk kind n [] [], (s.drop (i + (numTok (s.drop i)).length)).drop e.length, ?_, ⟨rfl, rfl, rfl, [], RepS.nil, trivial⟩, (f7.same f8).trans he9.fr (fun x hx => .inr (by simp at hx; have := hn5.1; have := hn.1; omega)), _, c8.fr he9.fr (two_not hpp5 hpp), by rw [List.drop_drop]⟩
      unfold pNamed
      rw [hnum]; simp only; rw [if_pos hpre]
    · rintro ch h8 ⟨rfl, hpre, f8⟩
      refine ⟨rfl, ?_, f7.same f8⟩
      unfold pNamed
      rw [hnum]; simp only; rw [if_neg (by rw [hpre]; simp)]
  · rintro ch h4 ⟨rfl, hnum, f4⟩
    refine ⟨rfl, ?_, f2.same f4⟩
    unfold pNamed; rw [hnum]

theorem cursor_all_ok {n : Nat} (hT : ∀ k, k ≤ n → TermC k) {h : Hp} {p : Nat} {s e : Str} {i : Nat} (g : Gl h) (hp8 : 8 ≤ p) (c : Cur h p s i) (hs : Small s) (hf : 2 * (s.drop i).length < n) :
    F_text_cursor_all.call (some ⟨p, 0, none⟩) e h (fun x h' => ∃ l r, pAllW (pTerm n) (pMore n) e (s.drop i) = some (l, r) ∧ (∃ vs, RepS tc h' (fun b => h.size ≤ b) x vs ∧ RepL h' (fun b => h.size ≤ b) vs l) ∧ Fr [p] h h' ∧ ∃ j, Cur h' p s j ∧ s.drop j = r)
      (fun ch h' => FailsT p h (pAllW (pTerm n) (pMore n) e (s.drop i)) ch h') := by
  refine F_text_cursor_all.sound ?_
  unfold F_text_cursor_all.body
  have hplt := c.1.lt
  refine F_text_cursor_is.mono (cursor_is_ok c hs _) ?_ fun _ _ h => h
  rintro r1 h2 ⟨hr1, f2, c2⟩
  refine ⟨fun ht => ?_, fun hfa => ?_⟩
  · subst ht
    refine ⟨[], _, ?_, ⟨[], RepS.nil, trivial⟩, f2, _, c2, rfl⟩
    unfold pAllW
    rw [if_pos hr1.symm]
    simp [List.drop_drop]
  · subst hfa
    simp only [Bool.false_eq_true, if_false] at c2
    have g2 : Gl h2 := g.fr f2 (by simpa using hp8)
    have hun : pAllW (pTerm n) (pMore n) e (s.drop i) = (match pTerm n (s.drop i) with
      | none => none
      | some (t, r1) => match pMore n r1 with
        | none => none
        | some (ts, r2) => if e.isPrefixOf r2 ∧ (t :: ts).length ≤ 64 then some (t :: ts, r2.drop e.length) else none) := by
      unfold pAllW; rw [if_neg (by rw [← hr1]; simp)]; all_goals rfl
    refine F_text_cursor_term.mono (hT n (Nat.le_refl _) h2 p s i g2 hp8 c2 hs hf) ?_ ?_
    · rintro v h4 ⟨t, r, hpt, hvt, f4, j1, c4, hj1⟩
      rw [hpt] at hun
      simp only at hun
      have hr := (p_len n).1 _ _ _ hpt
      rw [← hj1] at hr hun
      intro p5 h6 hp5 e6
      have f6 := Fr.push e6
      have hle2 := f2.1
      have hle4 := f4.1
      have hs6 := size_push e6
      have b5 : Blk h6 p5 (tc v) 24 := Blk.new hp5 e6
      have hmxl : (1 : Nat) ≤ maxLen := by decide
      have a6 : Acc h.size h6 ⟨some ⟨p5, 0, none⟩, 1, 1⟩ [t] [p5] := by
        refine ⟨Nat.le_refl _, fun y hy => by simp at hy; omega, by omega, [v], ⟨rfl, ⟨Nat.le_refl _, hmxl⟩, rfl, [], rfl, by simpa [cellsOf] using b5⟩, ?_, trivial⟩
        have := RepT.fr f6 (by simp) _ _ (RepT.bound _ _ hvt)
        exact RepT.mono (fun b hb => ⟨by omega, by simp; omega⟩) _ _ this
      refine ⟨fun x h' => ∃ j ts O m, Acc h.size h' x (t :: ts) O ∧ Fr [p] h h' ∧ Cur h' p s j ∧ m ≤ n ∧ 2 * (s.drop j).length < m ∧ (s.drop j).length + ts.length ≤ (s.drop j1).length ∧
          pMore n (s.drop j1) = (pMore m (s.drop j)).map fun q => (ts ++ q.1, q.2), fun _ h' => s.length - posOf h' p,
        ⟨j1, [], [p5], n, a6, (f2.same f4).step f6, c4.fr f6 (by simp), Nat.le_refl _, by omega, by simp, by simp⟩, ?_⟩
      rintro x h8 ⟨j, ts, O, m, a8, f8, c8, hmn, hjm, hcount, hmore⟩
      obtain ⟨m', rfl⟩ : ∃ m', m = m' + 1 := ⟨m - 1, by omega⟩
      refine F_text_cursor_is.mono (cursor_is_ok c8 hs _) ?_ fun _ _ h => h
      rintro r11 h12 ⟨hr11, f12, c12⟩
      have f12' := f8.same f12
      have g12 : Gl h12 := g.fr f12' (by simpa using hp8)
      have a12 := a8.fr f12 (by simp; omega)
      have hum : pMore (m' + 1) (s.drop j) = pMoreW (pTerm m') (pMore m') (s.drop j) := rfl
      refine ⟨fun ht => ?_, fun hfa => ?_⟩
      · subst ht
        simp only [if_true, List.length_cons, List.length_nil] at c12
        have hd1 : (s.drop (j + 1)).length < (s.drop j).length := by
          have := isPrefixOf_drop hr11.symm c8.2
          simp only [List.length_cons, List.length_nil] at this
          rw [List.length_drop, List.length_drop]; omega
        have hum2 : pMoreW (pTerm m') (pMore m') (s.drop j) = (match pTerm m' (s.drop (j + 1)) with
          | none => none
          | some (t, r1) => (pMore m' r1).map fun q => (t :: q.1, q.2)) := by
          unfold pMoreW; rw [if_pos hr11.symm, List.drop_drop]; all_goals rfl
        refine F_text_cursor_term.mono (hT m' (by omega) h12 p s (j + 1) g12 hp8 c12 hs (by omega)) ?_ ?_
        · rintro v' h14 ⟨t', r', hpt', hvt', f14, j2, c14, hj2⟩
          have hr2 := (p_len m').1 _ _ _ hpt'
          rw [← hj2] at hr2
          intro p15 h16 hp15 e16
          have a14 := a12.fr f14 (by simp; omega)
          have hOlt : ∀ y ∈ O, y < h12.size := by
            obtain ⟨vs, gs, _⟩ := a12.rep
            intro y hy
            cases O with
            | nil => cases hy
            | cons z O =>
              have := a12.one
              obtain rfl : O = [] := by simpa using this
              simp at hy; subst hy; exact gs.lt
          have hle12 := f12'.1
          have hv14 : RepT h14 (fun b => h.size ≤ b ∧ b ∉ O) v' t' := RepT.mono (fun b hb => ⟨by omega, fun hm => by have := hOlt b hm; omega⟩) _ _ hvt'
          have hsl : (s.drop j1).length ≤ 1048576 := by have : s.length ≤ 1048576 := hs; rw [List.length_drop]; omega
          refine a14.app hv14 hp15 e16 (by simp; omega) ?_
          intro x' h18 O' a18 f18
          have hpO : p ∉ O := fun hm => by have := a8.low p hm; omega
          have c18 : Cur h18 p s j2 := c14.fr f18 hpO
          refine ⟨⟨j2, ts ++ [t'], O', m', by simpa using a18, ?_, c18, by omega, by omega, by rw [List.length_append, List.length_singleton]; omega, ?_⟩, ?_⟩
          · exact ((f12'.same f14).trans f18 (fun y hy => .inr (a8.low y hy)))
          · rw [hmore, hum, hum2, hpt', ← hj2]
            simp only [Option.map_map]
            congr 1
            funext q
            simp
          · show s.length - posOf h18 p < s.length - posOf h8 p
            rw [c18.posOf, c8.posOf]
            have := c18.2
            simp only [List.length_drop] at hr2 hd1
            omega
        · rintro ch h14 ⟨rfl, hpt', f14⟩
          refine ⟨rfl, ?_, f12'.same f14⟩
          rw [hun, hmore, hum, hum2, hpt']
          rfl
      · subst hfa
        simp only [Bool.false_eq_true, if_false] at c12
        have hum2 : pMoreW (pTerm m') (pMore m') (s.drop j) = some ([], s.drop j) := by unfold pMoreW; rw [if_neg (by rw [← hr11]; simp)]
        have hres : pMore n (s.drop j1) = some (ts, s.drop j) := by rw [hmore, hum, hum2]; simp
        rw [hres] at hun
        simp only at hun
        obtain ⟨vs, gs, rl⟩ := a12.rep
        have hxl : x.len = (t :: ts).length := by rw [gs.len]; exact RepL.length _ _ rl
        refine F_text_cursor_must.mono (cursor_must_ok c12 hs) ?_ ?_
        · rintro h19 ⟨hpre, f19, c19⟩
          refine ⟨fun hbig => ⟨rfl, ?_, f12'.same f19⟩, fun hsm => ?_⟩
          · rw [hun, if_neg (by rw [hxl] at hbig; omega)]
          · have a19 := a12.fr f19 (by simp; omega)
            obtain ⟨vs, gs, rl⟩ := a19.rep
            refine ⟨t :: ts, _, by rw [hun, if_pos ⟨hpre, by rw [hxl] at hsm; omega⟩], ⟨vs, gs.rep (fun b hb => a19.low b hb), RepL.mono (fun b hb => hb.1) _ _ rl⟩, f12'.same f19, _, c19, by rw [List.drop_drop]⟩
        · rintro ch h19 ⟨rfl, hpre, f19⟩
          refine ⟨rfl, ?_, f12'.same f19⟩
          rw [hun, if_neg (by rw [hpre]; simp)]
    · rintro ch h4 ⟨rfl, hpt, f4⟩
      refine ⟨rfl, ?_, f2.same f4⟩
      rw [hun, hpt]
end Go.Proofs.YtefbonjcpdjhcaaGreatDoor.X

/- Stage 2: the program's reader: functions. -/
set_option linter.unusedVariables false
set_option maxRecDepth 100000
namespace Go.Proofs.YtefbonjcpdjhcaaGreatDoor.X
open Go Go.RowKit

theorem Acc.nil {L : Nat} {h : Hp} (hl : L ≤ h.size) : Acc L h ⟨none, 0, 0⟩ [] [] := ⟨by simp, by simp, hl, [], ⟨rfl, rfl⟩, trivial⟩
theorem Acc.olt {L : Nat} {h : Hp} {x : Sl} {ts : List Tm} {O : List Nat} (a : Acc L h x ts O) : ∀ y ∈ O, y < h.size := by
  obtain ⟨vs, gs, _⟩ := a.rep
  intro y hy
  cases O with
  | nil => cases hy
  | cons z O =>
    have := a.one
    obtain rfl : O = [] := by simpa using this
    simp at hy; subst hy; exact gs.lt
theorem Acc.len {L : Nat} {h : Hp} {x : Sl} {ts : List Tm} {O : List Nat} (a : Acc L h x ts O) : x.len = ts.length := by
  obtain ⟨vs, gs, r⟩ := a.rep
  rw [gs.len]; exact RepL.length _ _ r
theorem cursor_fun_ok {n : Nat} (hT : ∀ k, k ≤ n → TermC k) {h : Hp} {p : Nat} {s : Str} {i : Nat} (g : Gl h) (hp8 : 8 ≤ p) (c : Cur h p s i) (hs : Small s) (hf : 2 * (s.drop i).length < n) :
    F_text_cursor_fun.call (some ⟨p, 0, none⟩) h (fun v h' => ReadsT p s h (pFunW (pMore n) (s.drop i)) v h') (fun ch h' => FailsT p h (pFunW (pMore n) (s.drop i)) ch h') := by
  refine F_text_cursor_fun.sound ?_
  unfold F_text_cursor_fun.body
  have hplt := c.1.lt
  intro p1 h2 hn he hL
  have hpp : p ≠ p1 := by have := hn.1; omega
  have f2 : Fr [p] h h2 := (Fr.refl _ h).ev he (one_ge hn.1)
  have c2 : Cur h2 p s i := c.fr he.fr (one_not hpp)
  have g2 : Gl h2 := g.fr f2 (by simpa using hp8)
  refine F_text_cursor_number.mono (cursor_number_ok g2 hp8 c2 hs) ?_ ?_
  · rintro nn h4 ⟨hnum, f4, c4⟩
    refine ⟨f4.sameOn hL (one_ne (Ne.symm hpp)), fun p5 h7 hn5 he5 => ?_⟩
    have hle4 : h.size ≤ h4.size := Nat.le_trans f2.1 f4.1
    have hpp5 : p ≠ p5 := by have := hn5.1; omega
    have hb51 : ∀ x ∈ [p5, p1], h.size ≤ x := fun x hx => by simp at hx; have := hn5.1; have := hn.1; omega
    have hb7 : ∀ x ∈ [p5, p1], x < h7.size := fun x hx => by simp at hx; have := hn5.2; have := hn.2; have := f4.1; have := he5.size; omega
    have f7 : Fr [p] h h7 := (f2.same f4).trans he5.fr (fun x hx => .inr (hb51 x hx))
    have c7 := c4.fr he5.fr (two_not hpp5 hpp)
    have hle7 := f7.1
    generalize hj1 : i + (numTok (s.drop i)).length = j1 at hnum c4 c7
    have hnl := pNum_len hnum
    have hun : pFunW (pMore n) (s.drop i) = (match pMore n (s.drop j1) with
        | none => none
        | some (ts, r2) => if ([62] : Str).isPrefixOf r2 ∧ ts.length ≤ 64 then some (.mk 5 nn [] ts, r2.drop 1) else none) := by
      unfold pFunW; rw [hnum]; all_goals rfl
    refine ⟨fun v h' => ∃ j ts O m, v.Kind = 5 ∧ v.N = nn ∧ v.S = [] ∧ Acc h7.size h' v.L ts O ∧ Fr [p] h h' ∧ Fr [p, p5, p1] h7 h' ∧ Cur h' p s j ∧ m ≤ n ∧ 2 * (s.drop j).length < m ∧ (s.drop j).length + ts.length ≤ (s.drop j1).length ∧
          pMore n (s.drop j1) = (pMore m (s.drop j)).map fun q => (ts ++ q.1, q.2), fun _ h' => s.length - posOf h' p,
        ⟨j1, [], [], n, rfl, rfl, rfl, Acc.nil (Nat.le_refl _), f7, Fr.refl _ _, c7, Nat.le_refl _, by omega, by simp, by simp⟩, ?_⟩
    rintro ⟨vk, vn, vS, x⟩ h9 ⟨j, ts, O, m, e1, e2, e3, a9, f9, fb9, c9, hmn, hjm, hcount, hmore⟩
    simp only at e1 e2 e3 a9
    subst e1 e2 e3
    intro hL9
    obtain ⟨m', rfl⟩ : ∃ m', m = m' + 1 := ⟨m - 1, by omega⟩
    have hnp : ∀ q ∈ [p5, p1], q ∉ [p] := fun q hq => by simp at hq ⊢; omega
    have hpL : ∀ y ∈ [p], y < h7.size := fun y hy => by simp at hy; omega
    refine F_text_cursor_is.mono (cursor_is_ok c9 hs _) ?_ fun _ _ h => h
    rintro r12 h13 ⟨hr12, f13, c13⟩
    have f13' := f9.same f13
    have g13 : Gl h13 := g.fr f13' (by simpa using hp8)
    have a13 := a9.fr f13 hpL
    have hum : pMore (m' + 1) (s.drop j) = pMoreW (pTerm m') (pMore m') (s.drop j) := rfl
    refine ⟨f13.sameOn hL9 hnp, fun ht hL13 => ?_, fun hfa hL13 => ?_⟩
    · subst ht
      simp only [if_true, List.length_cons, List.length_nil] at c13
      have hd1 : (s.drop (j + 1)).length < (s.drop j).length := by
        have := isPrefixOf_drop hr12.symm c9.2
        simp only [List.length_cons, List.length_nil] at this
        rw [List.length_drop, List.length_drop]; omega
      have hum2 : pMoreW (pTerm m') (pMore m') (s.drop j) = (match pTerm m' (s.drop (j + 1)) with
        | none => none
        | some (t, r1) => (pMore m' r1).map fun q => (t :: q.1, q.2)) := by
        unfold pMoreW; rw [if_pos hr12.symm, List.drop_drop]; all_goals rfl
      refine F_text_cursor_term.mono (hT m' (by omega) h13 p s (j + 1) g13 hp8 c13 hs (by omega)) ?_ ?_
      · rintro v' h15 ⟨t', r', hpt', hvt', f15, j2, c15, hj2⟩
        have hr2 := (p_len m').1 _ _ _ hpt'
        rw [← hj2] at hr2
        refine ⟨f15.sameOn hL13 hnp, ?_⟩
        intro p16 h17 hp16 e17
        have a15 := a13.fr f15 hpL
        have hOlt := a13.olt
        have hle13 : h7.size ≤ h13.size := a13.le
        have hv15 : RepT h15 (fun b => h7.size ≤ b ∧ b ∉ O) v' t' := RepT.mono (fun b hb => ⟨by omega, fun hm => by have := hOlt b hm; omega⟩) _ _ hvt'
        have hsl : (s.drop j1).length ≤ 1048576 := by have : s.length ≤ 1048576 := hs; rw [List.length_drop]; omega
        refine a15.app hv15 hp16 e17 (by omega) ?_
        intro x' h19 O' a19 f19
        have hpO : p ∉ O := fun hm => by have := a9.low p hm; omega
        have f17 := Fr.push e17
        have f1719 : SameOn [p5, p1] h17 h19 := fun q hq => by
          have hq7 := hb7 q hq
          have hql : q < h15.size := by have := f15.1; omega
          have e1 := f17.2 q hql (by simp)
          rw [e1]
          exact f19.2 q hql (fun hm => by have := a9.low q hm; omega)
        refine ⟨f1719, fun h20 he20 => ?_⟩
        have a20 := a19.fr he20.fr hb7
        have c19 : Cur h19 p s j2 := c15.fr f19 hpO
        have c20 := c19.fr he20.fr (two_not hpp5 hpp)
        refine ⟨⟨j2, ts ++ [t'], O', m', rfl, rfl, rfl, a20, ?_, ?_, c20, by omega, by omega, by rw [List.length_append, List.length_singleton]; omega, ?_⟩, ?_⟩
        · exact ((f13'.same f15).trans f19 (fun y hy => .inr (by have := a9.low y hy; omega))).trans he20.fr (fun y hy => .inr (hb51 y hy))
        · have b1 : Fr [p, p5, p1] h7 h15 := (fb9.trans f13 (fun y hy => .inl (by simp at hy; simp [hy]))).trans f15 (fun y hy => .inl (by simp at hy; simp [hy]))
          exact (b1.trans f19 (fun y hy => .inr (a9.low y hy))).trans he20.fr (fun y hy => .inl (by simp at hy ⊢; omega))
        · rw [hmore, hum, hum2, hpt', ← hj2]
          simp only [Option.map_map]
          congr 1
          funext q
          simp
        · show s.length - posOf h20 p < s.length - posOf h9 p
          rw [c20.posOf, c9.posOf]
          have := c20.2
          simp only [List.length_drop] at hr2 hd1
          omega
      · rintro ch h15 ⟨rfl, hpt', f15⟩
        refine ⟨rfl, ?_, f13'.same f15⟩
        rw [hun, hmore, hum, hum2, hpt']
        rfl
    · subst hfa
      simp only [Bool.false_eq_true, if_false] at c13
      have hum2 : pMoreW (pTerm m') (pMore m') (s.drop j) = some ([], s.drop j) := by unfold pMoreW; rw [if_neg (by rw [← hr12]; simp)]
      have hres : pMore n (s.drop j1) = some (ts, s.drop j) := by rw [hmore, hum, hum2]; simp
      rw [hres] at hun
      simp only at hun
      have hxl := a13.len
      refine F_text_cursor_must.mono (cursor_must_ok c13 hs) ?_ ?_
      · rintro h21 ⟨hpre, f21, c21⟩
        refine ⟨f21.sameOn hL13 hnp, fun hbig => ⟨rfl, ?_, f13'.same f21⟩, fun hsm h22 he22 => ?_⟩
        · have hbig : (x.len : Int) > 64 := hbig
          rw [hun, if_neg (by omega)]
        · have hsm : ¬ (x.len : Int) > 64 := hsm
          have a22 := (a13.fr f21 hpL).fr he22.fr hb7
          obtain ⟨vs, gs, rl⟩ := a22.rep
          refine ⟨.mk 5 vn [] ts, _, by rw [hun, if_pos ⟨hpre, by omega⟩], ⟨rfl, rfl, rfl, vs, gs.rep (fun b hb => by have := a22.low b hb; omega), RepL.mono (fun b hb => by omega) _ _ rl⟩, ((f13'.same f21).trans he22.fr (fun y hy => .inr (hb51 y hy))), _, c21.fr he22.fr (two_not hpp5 hpp), by rw [List.drop_drop]; rfl⟩
      · rintro ch h21 ⟨rfl, hpre, f21⟩
        refine ⟨rfl, ?_, f13'.same f21⟩
        rw [hun, if_neg (by rw [hpre]; simp)]
  · rintro ch h4 ⟨rfl, hnum, f4⟩
    refine ⟨rfl, ?_, f2.same f4⟩
    unfold pFunW; rw [hnum]
end Go.Proofs.YtefbonjcpdjhcaaGreatDoor.X

/- Stage 2: the program's reader: lists, terms. -/
set_option linter.unusedVariables false
set_option maxRecDepth 100000
namespace Go.Proofs.YtefbonjcpdjhcaaGreatDoor.X
open Go Go.RowKit

theorem cursor_list_ok {n : Nat} (hT : ∀ k, k ≤ n → TermC k) {h : Hp} {p : Nat} {s : Str} {i : Nat} (g : Gl h) (hp8 : 8 ≤ p) (c : Cur h p s i) (hs : Small s) (hf : 2 * (s.drop i).length < n) :
    F_text_cursor_list.call (some ⟨p, 0, none⟩) h (fun v h' => ReadsT p s h (pListW (pTerm n) (pMore n) (s.drop i)) v h') (fun ch h' => FailsT p h (pListW (pTerm n) (pMore n) (s.drop i)) ch h') := by
  refine F_text_cursor_list.sound ?_
  unfold F_text_cursor_list.body
  have hplt := c.1.lt
  intro p1 p3 h5 hn1 hn3 he hL
  have hb31 : ∀ x ∈ [p3, p1], h.size ≤ x := fun x hx => by simp at hx; have := hn1.1; have := hn3.1; omega
  have hb5 : ∀ x ∈ [p3, p1], x < h5.size := fun x hx => by simp at hx; have := hn1.2; have := hn3.2; omega
  have hp31 : p ∉ [p3, p1] := fun hm => by have := hb31 p hm; omega
  have hnp : ∀ q ∈ [p3, p1], q ∉ [p] := fun q hq => by have := hb31 q hq; simp; omega
  have f5 : Fr [p] h h5 := (Fr.refl _ h).ev he hb31
  have c5 : Cur h5 p s i := c.fr he.fr hp31
  have g5 : Gl h5 := g.fr f5 (by simpa using hp8)
  have hle5 := f5.1
  have hpL : ∀ y ∈ [p], y < h5.size := fun y hy => by simp at hy; omega
  refine F_text_cursor_is.mono (cursor_is_ok c5 hs _) ?_ fun _ _ h => h
  rintro r6 h7 ⟨hr6, f7, c7⟩
  have f7' := f5.same f7
  refine ⟨f7.sameOn hL hnp, fun ht h8 he8 => ?_, fun hfa hL7 => ?_⟩
  · subst ht
    refine ⟨nilT, (s.drop i).drop 1, ?_, ⟨rfl, rfl, rfl, [], RepS.nil, trivial⟩, f7'.trans he8.fr (fun y hy => .inr (hb31 y hy)), _, c7.fr he8.fr hp31, by rw [List.drop_drop]; rfl⟩
    unfold pListW; rw [if_pos hr6.symm]
  · subst hfa
    simp only [Bool.false_eq_true, if_false] at c7
    have g7 : Gl h7 := g.fr f7' (by simpa using hp8)
    have hun : pListW (pTerm n) (pMore n) (s.drop i) = (match pTerm n (s.drop i) with
      | none => none
      | some (t, r1) => match pMore n r1 with
        | none => none
        | some (ts, r2) => match pTailW (pTerm n) r2 with
          | none => none
          | some (tl, r3) => if ([93] : Str).isPrefixOf r3 then some (mkList (t :: ts) tl, r3.drop 1) else none) := by
      unfold pListW; rw [if_neg (by rw [← hr6]; simp)]; all_goals rfl
    refine F_text_cursor_term.mono (hT n (Nat.le_refl _) h7 p s i g7 hp8 c7 hs hf) ?_ ?_
    · rintro v h10 ⟨t, r, hpt, hvt, f10, j1, c10, hj1⟩
      rw [hpt] at hun
      simp only at hun
      have hr := (p_len n).1 _ _ _ hpt
      rw [← hj1] at hr hun
      refine ⟨f10.sameOn hL7 hnp, ?_⟩
      intro p11 h12 hp11 e12
      have f12 := Fr.push e12
      have hle7 := f7.1
      have hle10 := f10.1
      have hs12 := size_push e12
      have b11 : Blk h12 p11 (tc v) 24 := Blk.new hp11 e12
      have hmxl : (1 : Nat) ≤ maxLen := by decide
      have a12 : Acc h5.size h12 ⟨some ⟨p11, 0, none⟩, 1, 1⟩ [t] [p11] := by
        refine ⟨Nat.le_refl _, fun y hy => by simp at hy; omega, by omega, [v], ⟨rfl, ⟨Nat.le_refl _, hmxl⟩, rfl, [], rfl, by simpa [cellsOf] using b11⟩, ?_, trivial⟩
        have := RepT.fr f12 (by simp) _ _ (RepT.bound _ _ hvt)
        exact RepT.mono (fun b hb => ⟨by omega, by simp; omega⟩) _ _ this
      have hsl : (s.drop j1).length ≤ 1048576 := by have : s.length ≤ 1048576 := hs; rw [List.length_drop]; omega
      refine ⟨fun x h' => ∃ j ts O m, Acc h5.size h' x (t :: ts) O ∧ Fr [p] h h' ∧ h5.size ≤ h'.size ∧ Cur h' p s j ∧ m ≤ n ∧ 2 * (s.drop j).length < m ∧ (s.drop j).length + ts.length ≤ (s.drop j1).length ∧
          pMore n (s.drop j1) = (pMore m (s.drop j)).map fun q => (ts ++ q.1, q.2), fun _ h' => s.length - posOf h' p,
        ⟨j1, [], [p11], n, a12, (f7'.same f10).step f12, by omega, c10.fr f12 (by simp), Nat.le_refl _, by omega, by simp, by simp⟩, ?_⟩
      rintro x h14 ⟨j, ts, O, m, a14, f14, hle14, c14, hmn, hjm, hcount, hmore⟩ hL14
      obtain ⟨m', rfl⟩ : ∃ m', m = m' + 1 := ⟨m - 1, by omega⟩
      refine F_text_cursor_is.mono (cursor_is_ok c14 hs _) ?_ fun _ _ h => h
      rintro r17 h18 ⟨hr17, f18, c18⟩
      have f18' := f14.same f18
      have g18 : Gl h18 := g.fr f18' (by simpa using hp8)
      have a18 := a14.fr f18 hpL
      have hum : pMore (m' + 1) (s.drop j) = pMoreW (pTerm m') (pMore m') (s.drop j) := rfl
      refine ⟨f18.sameOn hL14 hnp, fun ht hL18 => ?_, fun hfa => ?_⟩
      · subst ht
        simp only [if_true, List.length_cons, List.length_nil] at c18
        have hd1 : (s.drop (j + 1)).length < (s.drop j).length := by
          have := isPrefixOf_drop hr17.symm c14.2
          simp only [List.length_cons, List.length_nil] at this
          rw [List.length_drop, List.length_drop]; omega
        have hum2 : pMoreW (pTerm m') (pMore m') (s.drop j) = (match pTerm m' (s.drop (j + 1)) with
          | none => none
          | some (t, r1) => (pMore m' r1).map fun q => (t :: q.1, q.2)) := by
          unfold pMoreW; rw [if_pos hr17.symm, List.drop_drop]; all_goals rfl
        refine F_text_cursor_term.mono (hT m' (by omega) h18 p s (j + 1) g18 hp8 c18 hs (by omega)) ?_ ?_
        · rintro v' h20 ⟨t', r', hpt', hvt', f20, j2, c20, hj2⟩
          have hr2 := (p_len m').1 _ _ _ hpt'
          rw [← hj2] at hr2
          refine ⟨f20.sameOn hL18 hnp, ?_⟩
          intro p21 h22 hp21 e22
          have a20 := a18.fr f20 hpL
          have hOlt := a18.olt
          have hle18 : h5.size ≤ h18.size := a18.le
          have hv20 : RepT h20 (fun b => h5.size ≤ b ∧ b ∉ O) v' t' := RepT.mono (fun b hb => ⟨by omega, fun hm => by have := hOlt b hm; omega⟩) _ _ hvt'
          refine a20.app hv20 hp21 e22 (by rw [List.length_cons]; omega) ?_
          intro x' h24 O' a24 f24
          have hpO : p ∉ O := fun hm => by have := a14.low p hm; omega
          have f22 := Fr.push e22
          have f2224 : SameOn [p3, p1] h22 h24 := fun q hq => by
            have hq7 := hb5 q hq
            have hql : q < h20.size := by have := f20.1; omega
            rw [f22.2 q hql (by simp)]
            exact f24.2 q hql (fun hm => by have := a14.low q hm; omega)
          have c24 : Cur h24 p s j2 := c20.fr f24 hpO
          have f24' : Fr [p] h h24 := (f18'.same f20).trans f24 (fun y hy => .inr (by have := a14.low y hy; omega))
          refine ⟨f2224, ⟨j2, ts ++ [t'], O', m', by simpa using a24, f24', by have := f20.1; have := f24.1; omega, c24, by omega, by omega, by rw [List.length_append, List.length_singleton]; omega, ?_⟩, ?_⟩
          · rw [hmore, hum, hum2, hpt', ← hj2]
            simp only [Option.map_map]
            congr 1
            funext q
            simp
          · show s.length - posOf h24 p < s.length - posOf h14 p
            rw [c24.posOf, c14.posOf]
            have := c24.2
            simp only [List.length_drop] at hr2 hd1
            omega
        · rintro ch h20 ⟨rfl, hpt', f20⟩
          refine ⟨rfl, ?_, f18'.same f20⟩
          rw [hun, hmore, hum, hum2, hpt']
          rfl
      · subst hfa
        simp only [Bool.false_eq_true, if_false] at c18
        have hum2 : pMoreW (pTerm m') (pMore m') (s.drop j) = some ([], s.drop j) := by unfold pMoreW; rw [if_neg (by rw [← hr17]; simp)]
        have hres : pMore n (s.drop j1) = some (ts, s.drop j) := by rw [hmore, hum, hum2]; simp
        rw [hres] at hun
        simp only at hun
        obtain ⟨vs, gs, rl⟩ := a18.rep
        have hOlt := a18.olt
        have hx18 : RepS tc h18 (fun b => h5.size ≤ b ∧ b < h18.size) x vs := gs.rep fun b hb => ⟨a18.low b hb, hOlt b hb⟩
        have hr18 : RepL h18 (fun b => h5.size ≤ b ∧ b < h18.size) vs (t :: ts) := RepL.mono (fun b hb => ⟨hb.1.1, hb.2⟩) _ _ (RepL.bound _ _ rl)
        have hxl := a18.len
        have hvl := RepL.length _ _ hr18
        intro p25 h27 hn25 he25
        have hle18 : h5.size ≤ h18.size := a18.le
        have hbb : ∀ y ∈ [p25, p3, p1], h.size ≤ y := fun y hy => by
          rcases List.mem_cons.1 hy with rfl | hy
          · have := hn25.1; omega
          · exact hb31 y hy
        have hpb : p ∉ [p25, p3, p1] := fun hm => by have := hbb p hm; omega
        have hnpb : ∀ q ∈ [p25, p3, p1], q ∉ [p] := fun q hq => by have := hbb q hq; simp; omega
        have hb27 : ∀ y ∈ [p25, p3, p1], y < h27.size := fun y hy => by
          rcases List.mem_cons.1 hy with rfl | hy
          · exact hn25.2
          · have := hb5 y hy; have := he25.size; omega
        have hQ : ∀ b, (h5.size ≤ b ∧ b < h18.size) → b ∉ [p, p25, p3, p1] := fun b hb hm => by
          rcases List.mem_cons.1 hm with rfl | hm
          · omega
          · rcases List.mem_cons.1 hm with rfl | hm
            · have := hn25.1; omega
            · have := hb5 b hm; omega
        have f27 : Fr [p] h h27 := f18'.trans he25.fr (fun y hy => .inr (hbb y hy))
        have fm27 : Fr [p, p25, p3, p1] h18 h27 := he25.fr.sub (fun y hy => .inl (List.mem_cons_of_mem _ hy))
        have c27 := c18.fr he25.fr hpb
        have g27 : Gl h27 := g.fr f27 (by simpa using hp8)
        have subp : ∀ y ∈ [p], y ∈ [p, p25, p3, p1] ∨ h18.size ≤ y := fun y hy => .inl (by simp at hy; simp [hy])
        have subb : ∀ y ∈ [p25, p3, p1], y ∈ [p, p25, p3, p1] ∨ h18.size ≤ y := fun y hy => .inl (List.mem_cons_of_mem _ hy)
        refine ⟨fun v h' => ∃ tl j', pTailW (pTerm n) (s.drop j) = some (tl, s.drop j') ∧ RepT h' (fun b => h27.size ≤ b) v tl ∧ Fr [p] h h' ∧ Fr [p, p25, p3, p1] h18 h' ∧ h27.size ≤ h'.size ∧ Cur h' p s j', fun hL27 => ?_, ?_⟩
        · refine F_text_cursor_is.mono (cursor_is_ok c27 hs _) ?_ fun _ _ h => h
          rintro r31 h32 ⟨hr31, f32, c32⟩
          have f32' := f27.same f32
          have fm32 := fm27.trans f32 subp
          refine ⟨f32.sameOn hL27 hnpb, fun ht hL32 => ?_, fun hfa => ?_⟩
          · subst ht
            simp only [if_true, List.length_cons, List.length_nil] at c32
            have htw : pTailW (pTerm n) (s.drop j) = (match pTerm n (s.drop (j + 1)) with
                | none => none
                | some (t, r1) => if t.kind = 9 ∨ t.kind = 8 then none else some (t, r1)) := by
              unfold pTailW; rw [if_pos hr31.symm, List.drop_drop]; all_goals rfl
            have hd1 : (s.drop (j + 1)).length ≤ (s.drop j).length := by rw [List.length_drop, List.length_drop]; omega
            refine F_text_cursor_term.mono (hT n (Nat.le_refl _) h32 p s (j + 1) (g.fr f32' (by simpa using hp8)) hp8 c32 hs (by omega)) ?_ ?_
            · rintro v' h34 ⟨t', r', hpt', hvt', f34, j2, c34, hj2⟩
              rw [hpt'] at htw
              simp only at htw
              have hle32 := f32.1
              have hk : v'.Kind = t'.kind := by
                cases t' with
                | mk k' n' s' l' => exact hvt'.1
              refine ⟨f34.sameOn hL32 hnpb, fun hbad h35 he35 => ?_, fun hgood h35 he35 => ?_⟩
              · refine ⟨rfl, ?_, (f32'.same f34).trans he35.fr (fun y hy => .inr (hbb y hy))⟩
                have : t'.kind = 9 ∨ t'.kind = 8 := by rw [← hk]; simpa using hbad
                rw [if_pos this] at htw
                rw [hun, htw]
              · have : ¬ (t'.kind = 9 ∨ t'.kind = 8) := by rw [← hk]; simpa using hgood
                rw [if_neg this] at htw
                refine ⟨t', j2, by rw [htw, hj2], ?_, (f32'.same f34).trans he35.fr (fun y hy => .inr (hbb y hy)), (fm32.trans f34 subp).trans he35.fr subb, by have := f34.1; have := he35.size; omega, c34.fr he35.fr hpb⟩
                have := RepT.fr he35.fr (fun b hb hm => by have := hb27 b hm; omega) _ _ hvt'
                exact RepT.mono (fun b hb => by omega) _ _ this
            · rintro ch h34 ⟨rfl, hpt', f34⟩
              refine ⟨rfl, ?_, f32'.same f34⟩
              rw [hpt'] at htw
              rw [hun, htw]
          · subst hfa
            simp only [Bool.false_eq_true, if_false] at c32
            refine ⟨nilT, j, by unfold pTailW; rw [if_neg (by rw [← hr31]; simp)], ⟨rfl, rfl, rfl, [], RepS.nil, trivial⟩, f32', fm32, f32.1, c32⟩
        · rintro v' h30 ⟨tl, j', htw, hv', f30, fm30, hle30, c30⟩ hL30
          rw [htw] at hun
          simp only at hun
          refine F_text_cursor_must.mono (cursor_must_ok c30 hs) ?_ ?_
          · rintro h37 ⟨hpre, f37, c37⟩
            have f37' := f30.same f37
            have fm37 := fm30.trans f37 subp
            refine ⟨f37.sameOn hL30 hnpb, fun hL37 => ?_⟩
            have hle37 := f37.1
            have hxx : RepS tc h37 (fun b => ((h5.size ≤ b ∧ b < h18.size) ∨ h27.size ≤ b) ∧ b < h37.size) x vs := RepS.mono (hx18.fr fm37 hQ).bound (fun b hb => ⟨.inl hb.1, hb.2⟩)
            have hrr : RepL h37 (fun b => ((h5.size ≤ b ∧ b < h18.size) ∨ h27.size ≤ b) ∧ b < h37.size) vs (t :: ts) := RepL.mono (fun b hb => ⟨.inl hb.1, hb.2⟩) _ _ (RepL.bound _ _ (RepL.fr fm37 hQ _ _ hr18))
            have hww : RepT h37 (fun b => ((h5.size ≤ b ∧ b < h18.size) ∨ h27.size ≤ b) ∧ b < h37.size) v' tl := RepT.mono (fun b hb => ⟨.inr hb.1, hb.2⟩) _ _ (RepT.bound _ _ (RepT.fr f37 (fun b hb => by have := he25.size; simp; omega) _ _ hv'))
            have hsli : (s.drop i).length ≤ 1048576 := by have : s.length ≤ 1048576 := hs; rw [List.length_drop]; omega
            have hl27 := f27.1
            have hl37 := f37'.1
            refine F_term_MakeList.mono (MakeList_ok (by rw [hvl, List.length_cons]; omega) (fun b hb => hb.2) hxx hrr hww _) ?_ fun _ _ h => h
            rintro r38 h39 ⟨hr38, f39⟩
            refine ⟨f39.sameOn hL37 (by simp), fun h40 he40 => ?_⟩
            refine ⟨mkList (t :: ts) tl, _, by rw [hun, if_pos hpre], ?_, (f37'.step f39).trans he40.fr (fun y hy => .inr (hbb y hy)), _, (c37.fr f39 (by simp)).fr he40.fr hpb, by rw [List.drop_drop]; rfl⟩
            have := RepT.fr he40.fr (fun b hb hm => by
              have h1 := hb27 b hm
              rcases hb with hb | hb
              · rcases hb.1 with h2 | h2
                · exact hQ b h2 (List.mem_cons_of_mem _ hm)
                · omega
              · omega) _ _ hr38
            refine RepT.mono (fun b hb => ?_) _ _ this
            rcases hb with hb | hb
            · rcases hb.1 with h2 | h2 <;> omega
            · omega
          · rintro ch h37 ⟨rfl, hpre, f37⟩
            refine ⟨rfl, ?_, f30.same f37⟩
            rw [hun, if_neg (by rw [hpre]; simp)]
    · rintro ch h10 ⟨rfl, hpt, f10⟩
      refine ⟨rfl, ?_, f7'.same f10⟩
      rw [hun, hpt]
end Go.Proofs.YtefbonjcpdjhcaaGreatDoor.X

/- Stage 2: the program's reader: a term, whatever the fuel. -/
set_option linter.unusedVariables false
set_option maxRecDepth 100000
namespace Go.Proofs.YtefbonjcpdjhcaaGreatDoor.X
open Go Go.RowKit

theorem ReadsT.lift {p : Nat} {s : Str} {h h1 h2 h3 : Hp} {res : Option (Tm × Str)} {v : TV} {B : List Nat} (r : ReadsT p s h1 res v h2) (f : Fr [p] h h1) (e : Ev B h2 h3) (hB : ∀ y ∈ B, h.size ≤ y) (hB1 : ∀ y ∈ B, y < h1.size) (hp : p < h.size) : ReadsT p s h res v h3 := by
  obtain ⟨t, r', h1', h2', h3', j, h4, h5⟩ := r
  have := f.1
  refine ⟨t, r', h1', ?_, (f.same h3').trans e.fr (fun y hy => .inr (hB y hy)), j, h4.fr e.fr (fun hm => by have := hB p hm; omega), h5⟩
  exact RepT.mono (fun b hb => by omega) _ _ (RepT.fr e.fr (fun b hb hm => by have := hB1 b hm; omega) _ _ h2')
theorem FailsT.lift {p : Nat} {T : Type} {h h1 h2 : Hp} {res : Option T} {ch : Chain} (r : FailsT p h1 res ch h2) (f : Fr [p] h h1) : FailsT p h res ch h2 := ⟨r.1, r.2.1, f.same r.2.2⟩
theorem cursor_term_step {n : Nat} (hT : ∀ k, k ≤ n → TermC k) : TermC (n + 1) := by
  intro h p s i g hp8 c hs hf
  refine F_text_cursor_term.sound ?_
  unfold F_text_cursor_term.body
  have hplt := c.1.lt
  intro p1 h2 hn he hL
  have hpp : p ≠ p1 := by have := hn.1; omega
  have f2 : Fr [p] h h2 := (Fr.refl _ h).ev he (one_ge hn.1)
  have c2 : Cur h2 p s i := c.fr he.fr (one_not hpp)
  have hB : ∀ y ∈ [p1], h.size ≤ y := one_ge hn.1
  have hB2 : ∀ y ∈ [p1], y < h2.size := fun y hy => by simp at hy; have := hn.2; omega
  have hnp := one_ne (Ne.symm hpp)
  have hun : pTerm (n + 1) (s.drop i) = pTermW (pTerm n) (pMore n) (s.drop i) := rfl
  rw [hun]
  have hdl : ∀ k, 0 < k → 0 < (s.drop i).length → 2 * (s.drop (i + k)).length < n := fun k hk hl => by rw [List.length_drop] at hf hl ⊢; omega
  have hpos : ∀ {e : Str}, e ≠ [] → e.isPrefixOf (s.drop i) = true → 0 < (s.drop i).length := fun he hp => by
    have := drop_lt hp he; omega
  refine F_text_cursor_is.mono (cursor_is_ok c2 hs _) ?_ fun _ _ h => h
  rintro r3 h4 ⟨hr3, f4, c4⟩
  have f4' := f2.same f4
  refine ⟨f4.sameOn hL hnp, fun ht hL4 => ?_, fun hfa hL4 => ?_⟩
  · subst ht
    simp only [if_true, List.length_cons, List.length_nil] at c4
    have hw : pTermW (pTerm n) (pMore n) (s.drop i) = (pAllW (pTerm n) (pMore n) [125] (s.drop (i + 1))).map fun q => (.mk 7 0 [] q.1, q.2) := by
      unfold pTermW; rw [if_pos hr3.symm, List.drop_drop]
    rw [hw]
    refine F_text_cursor_all.mono (cursor_all_ok (e := [125]) hT (g.fr f4' (by simpa using hp8)) hp8 c4 hs (hdl 1 (by omega) (hpos (by simp) hr3.symm))) ?_ ?_
    · rintro x h6 ⟨l, r, hal, ⟨vs, hx, hr⟩, f6, j, c6, hj⟩
      refine ⟨f6.sameOn hL4 hnp, fun h7 he7 => ?_⟩
      have hR : ReadsT p s h4 (some (.mk 7 0 [] l, r)) ⟨7, 0, [], x⟩ h6 := ⟨_, _, rfl, ⟨rfl, rfl, rfl, vs, hx, hr⟩, f6, j, c6, hj⟩
      rw [hal]
      exact hR.lift f4' he7 hB (fun y hy => by have := hB2 y hy; have := f4.1; omega) hplt
    · rintro ch h6 ⟨rfl, hal, f6⟩
      exact ⟨rfl, by rw [hal]; rfl, f4'.same f6⟩
  · subst hfa
    simp only [Bool.false_eq_true, if_false] at c4
    have n1 : ¬ ([123] : Str).isPrefixOf (s.drop i) = true := by rw [← hr3]; simp
    refine F_text_cursor_is.mono (cursor_is_ok c4 hs _) ?_ fun _ _ h => h
    rintro r8 h9 ⟨hr8, f9, c9⟩
    have f9' := f4'.same f9
    have l9 : ∀ y ∈ [p1], y < h9.size := fun y hy => by have := hB2 y hy; have := f4.1; have := f9.1; omega
    refine ⟨f9.sameOn hL4 hnp, fun ht hL9 => ?_, fun hfa hL9 => ?_⟩
    · subst ht
      simp only [if_true, List.length_cons, List.length_nil] at c9
      have hw : pTermW (pTerm n) (pMore n) (s.drop i) = pListW (pTerm n) (pMore n) (s.drop (i + 1)) := by
        unfold pTermW; rw [if_neg n1, if_pos hr8.symm, List.drop_drop]
      rw [hw]
      refine F_text_cursor_list.mono (cursor_list_ok hT (g.fr f9' (by simpa using hp8)) hp8 c9 hs (hdl 1 (by omega) (hpos (by simp) hr8.symm))) ?_ fun ch h' hx => hx.lift f9'
      exact fun v h11 hR => ⟨(let ⟨_, _, _, _, f, _⟩ := hR; f).sameOn hL9 hnp, fun h12 he12 => hR.lift f9' he12 hB l9 hplt⟩
    · subst hfa
      simp only [Bool.false_eq_true, if_false] at c9
      have n2 : ¬ ([91] : Str).isPrefixOf (s.drop i) = true := by rw [← hr8]; simp
      refine F_text_cursor_is.mono (cursor_is_ok c9 hs _) ?_ fun _ _ h => h
      rintro r13 h14 ⟨hr13, f14, c14⟩
      have f14' := f9'.same f14
      have l14 : ∀ y ∈ [p1], y < h14.size := fun y hy => by have := l9 y hy; have := f14.1; omega
      refine ⟨f14.sameOn hL9 hnp, fun ht hL14 => ?_, fun hfa hL14 => ?_⟩
      · subst ht
        simp only [if_true, List.length_cons, List.length_nil] at c14
        have hw : pTermW (pTerm n) (pMore n) (s.drop i) = pQuoted (s.drop (i + 1)) := by
          unfold pTermW; rw [if_neg n1, if_neg n2, if_pos hr13.symm, List.drop_drop]
        rw [hw]
        obtain ⟨r', hr'⟩ := (isPrefixOf_one _ _).1 hr13.symm
        refine F_text_cursor_quoted.mono (cursor_quoted_ok (i := i + 1) (g.fr f14' (by simpa using hp8)) hp8 c14 hs (by omega) (by rw [Nat.add_sub_cancel, hr', drop_succ_of hr'])) ?_ fun ch h' hx => FailsT.lift (p := p) (h1 := h14) (res := pQuoted (s.drop (i + 1))) hx f14'
        exact fun v h16 hR => ⟨(let ⟨_, _, _, _, f, _⟩ := hR; f).sameOn hL14 hnp, fun h17 he17 => ReadsT.lift (h1 := h14) (res := pQuoted (s.drop (i + 1))) hR f14' he17 hB l14 hplt⟩
      · subst hfa
        simp only [Bool.false_eq_true, if_false] at c14
        have n3 : ¬ ([39] : Str).isPrefixOf (s.drop i) = true := by rw [← hr13]; simp
        refine F_text_cursor_is.mono (cursor_is_ok c14 hs _) ?_ fun _ _ h => h
        rintro r18 h19 ⟨hr18, f19, c19⟩
        have f19' := f14'.same f19
        have l19 : ∀ y ∈ [p1], y < h19.size := fun y hy => by have := l14 y hy; have := f19.1; omega
        refine ⟨f19.sameOn hL14 hnp, fun ht hL19 => ?_, fun hfa hL19 => ?_⟩
        · subst ht
          simp only [if_true, List.length_cons, List.length_nil] at c19
          have hw : pTermW (pTerm n) (pMore n) (s.drop i) = pNamed 3 [62] (s.drop (i + 5)) := by
            unfold pTermW; rw [if_neg n1, if_neg n2, if_neg n3, if_pos hr18.symm, List.drop_drop]
          rw [hw]
          refine F_text_cursor_named.mono (cursor_named_ok (i := i + 5) (g.fr f19' (by simpa using hp8)) hp8 c19 hs) ?_ fun ch h' hx => hx.lift f19'
          exact fun v h21 hR => ⟨(let ⟨_, _, _, _, f, _⟩ := hR; f).sameOn hL19 hnp, fun h22 he22 => hR.lift f19' he22 hB l19 hplt⟩
        · subst hfa
          simp only [Bool.false_eq_true, if_false] at c19
          have n4 : ¬ ([35, 82, 101, 102, 60] : Str).isPrefixOf (s.drop i) = true := by rw [← hr18]; simp
          refine F_text_cursor_is.mono (cursor_is_ok c19 hs _) ?_ fun _ _ h => h
          rintro r23 h24 ⟨hr23, f24, c24⟩
          have f24' := f19'.same f24
          have l24 : ∀ y ∈ [p1], y < h24.size := fun y hy => by have := l19 y hy; have := f24.1; omega
          refine ⟨f24.sameOn hL19 hnp, fun ht hL24 => ?_, fun hfa hL24 => ?_⟩
          · subst ht
            simp only [if_true, List.length_cons, List.length_nil] at c24
            have hw : pTermW (pTerm n) (pMore n) (s.drop i) = pNamed 4 [62] (s.drop (i + 5)) := by
              unfold pTermW; rw [if_neg n1, if_neg n2, if_neg n3, if_neg n4, if_pos hr23.symm, List.drop_drop]
            rw [hw]
            refine F_text_cursor_named.mono (cursor_named_ok (i := i + 5) (g.fr f24' (by simpa using hp8)) hp8 c24 hs) ?_ fun ch h' hx => hx.lift f24'
            exact fun v h21 hR => ⟨(let ⟨_, _, _, _, f, _⟩ := hR; f).sameOn hL24 hnp, fun h22 he22 => hR.lift f24' he22 hB l24 hplt⟩
          · subst hfa
            simp only [Bool.false_eq_true, if_false] at c24
            have n5 : ¬ ([35, 84, 105, 100, 60] : Str).isPrefixOf (s.drop i) = true := by rw [← hr23]; simp
            refine F_text_cursor_is.mono (cursor_is_ok c24 hs _) ?_ fun _ _ h => h
            rintro r28 h29 ⟨hr28, f29, c29⟩
            have f29' := f24'.same f29
            have l29 : ∀ y ∈ [p1], y < h29.size := fun y hy => by have := l24 y hy; have := f29.1; omega
            refine ⟨f29.sameOn hL24 hnp, fun ht hL29 => ?_, fun hfa hL29 => ?_⟩
            · subst ht
              simp only [if_true, List.length_cons, List.length_nil] at c29
              have hw : pTermW (pTerm n) (pMore n) (s.drop i) = pNamed 6 [46, 48, 62] (s.drop (i + 3)) := by
                unfold pTermW; rw [if_neg n1, if_neg n2, if_neg n3, if_neg n4, if_neg n5, if_pos hr28.symm, List.drop_drop]
              rw [hw]
              refine F_text_cursor_named.mono (cursor_named_ok (i := i + 3) (g.fr f29' (by simpa using hp8)) hp8 c29 hs) ?_ fun ch h' hx => hx.lift f29'
              exact fun v h21 hR => ⟨(let ⟨_, _, _, _, f, _⟩ := hR; f).sameOn hL29 hnp, fun h22 he22 => hR.lift f29' he22 hB l29 hplt⟩
            · subst hfa
              simp only [Bool.false_eq_true, if_false] at c29
              have n6 : ¬ ([60, 48, 46] : Str).isPrefixOf (s.drop i) = true := by rw [← hr28]; simp
              refine F_text_cursor_is.mono (cursor_is_ok c29 hs _) ?_ fun _ _ h => h
              rintro r33 h34 ⟨hr33, f34, c34⟩
              have f34' := f29'.same f34
              have l34 : ∀ y ∈ [p1], y < h34.size := fun y hy => by have := l29 y hy; have := f34.1; omega
              refine ⟨f34.sameOn hL29 hnp, fun ht hL34 => ?_, fun hfa => ?_⟩
              · subst ht
                simp only [if_true, List.length_cons, List.length_nil] at c34
                have hw : pTermW (pTerm n) (pMore n) (s.drop i) = pFunW (pMore n) (s.drop (i + 5)) := by
                  unfold pTermW; rw [if_neg n1, if_neg n2, if_neg n3, if_neg n4, if_neg n5, if_neg n6, if_pos hr33.symm, List.drop_drop]
                rw [hw]
                refine F_text_cursor_fun.mono (cursor_fun_ok (i := i + 5) hT (g.fr f34' (by simpa using hp8)) hp8 c34 hs (hdl 5 (by omega) (hpos (by simp) hr33.symm))) ?_ fun ch h' hx => hx.lift f34'
                exact fun v h21 hR => ⟨(let ⟨_, _, _, _, f, _⟩ := hR; f).sameOn hL34 hnp, fun h22 he22 => hR.lift f34' he22 hB l34 hplt⟩
              · subst hfa
                simp only [Bool.false_eq_true, if_false] at c34
                have n7 : ¬ ([35, 70, 117, 110, 60] : Str).isPrefixOf (s.drop i) = true := by rw [← hr33]; simp
                have hw : pTermW (pTerm n) (pMore n) (s.drop i) = if isSmall (s.drop i) then pPlain (s.drop i) else (pNum (-576460752303423488) 576460752303423487 (s.drop i)).map fun q => (.mk 1 q.1 [] [], q.2) := by
                  unfold pTermW; rw [if_neg n1, if_neg n2, if_neg n3, if_neg n4, if_neg n5, if_neg n6, if_neg n7]
                rw [hw]
                have g34 := g.fr f34' (by simpa using hp8)
                refine ⟨fun y h40 => h40 = h34 ∧ y = isSmall (s.drop i), ⟨_, rfl, (i : Int), c34.pos, s, c34.str, fun hlt => ⟨⟨by omega, by omega⟩, fun hL34 => ?_⟩, fun hge => ⟨rfl, ?_⟩⟩, ?_⟩
                · have hlts : i < s.length := by omega
                  obtain ⟨d, r', hd⟩ : ∃ d r', s.drop i = d :: r' := ⟨s[i], s.drop (i + 1), List.drop_eq_getElem_cons hlts⟩
                  rw [bt_drop hd]
                  refine F_text_small.mono (F_text_small.ok _ _ _) ?_ fun _ _ h => h
                  rintro r16 h17 ⟨rfl, rfl⟩
                  refine ⟨fun _ _ => rfl, rfl, ?_⟩
                  rw [small_int, hd]; rfl
                · rw [drop_nil_iff.2 (by omega)]; rfl
                · rintro y h40 ⟨rfl, rfl⟩
                  refine ⟨fun hsm hL40 => ?_, fun hsm hL40 => ?_⟩
                  · rw [if_pos hsm]
                    refine F_text_cursor_plain.mono (cursor_plain_ok g34 hp8 c34 hs) ?_ fun ch h' hx => FailsT.lift (p := p) (h1 := h40) (res := pPlain (s.drop i)) hx f34'
                    exact fun v h16 hR => ⟨(let ⟨_, _, _, _, f, _⟩ := hR; f).sameOn hL40 hnp, fun h17 he17 => ReadsT.lift (h1 := h40) (res := pPlain (s.drop i)) hR f34' he17 hB l34 hplt⟩
                  · rw [if_neg (by rw [hsm]; simp)]
                    refine F_text_cursor_number.mono (cursor_number_ok g34 hp8 c34 hs) ?_ ?_
                    · rintro nn h52 ⟨hnum, f52, c52⟩
                      refine ⟨f52.sameOn hL40 hnp, fun h53 he53 => ?_⟩
                      rw [hnum]
                      have hR : ReadsT p s h40 (some (.mk 1 nn [] [], s.drop (i + (numTok (s.drop i)).length))) ⟨1, nn, [], ⟨none, 0, 0⟩⟩ h52 := ⟨_, _, rfl, ⟨rfl, rfl, rfl, [], RepS.nil, trivial⟩, f52, _, c52, rfl⟩
                      exact hR.lift f34' he53 hB l34 hplt
                    · rintro ch h52 ⟨rfl, hnum, f52⟩
                      exact ⟨rfl, by rw [hnum]; rfl, f34'.same f52⟩
theorem term_all : ∀ n k, k ≤ n → TermC k
  | 0, k, hk => by
    obtain rfl : k = 0 := by omega
    intro h p s i _ _ _ _ hf
    omega
  | n + 1, k, hk => by
    rcases Nat.lt_or_ge k (n + 1) with h | h
    · exact term_all n k (by omega)
    · obtain rfl : k = n + 1 := by omega
      exact cursor_term_step (term_all n)
end Go.Proofs.YtefbonjcpdjhcaaGreatDoor.X

/- Stage 2: the program's text.read: a whole text. -/
set_option linter.unusedVariables false
set_option maxRecDepth 100000
namespace Go.Proofs.YtefbonjcpdjhcaaGreatDoor.X
open Go Go.RowKit

def pRead (s : Str) : Option Tm :=
  match pTerm (2 * s.length + 1) s with
  | none => none
  | some (t, r) => if r = [] then some t else none
theorem gl8 {h : Hp} (g : Gl h) : 8 ≤ h.size := by have := g.size; rw [globals_size] at this; exact this
theorem F_text_read.ok {h : Hp} {s : Str} (g : Gl h) (hs : Small s) (X : Chain → Hp → Prop) :
    F_text_read.call s h (fun v ok h' => ok = (pRead s).isSome ∧ (∀ t, pRead s = some t → RepT h' (fun b => h.size ≤ b) v t) ∧ Fr [] h h') X := by
  refine F_text_read.sound ?_
  unfold F_text_read.body
  have h8 := gl8 g
  intro p1 h2 hp1 e2 p3 h4 hp3 e4 p5 h6 hp5 e6
  have f2 := Fr.push e2
  have f4 := Fr.push e4
  have f6 := Fr.push e6
  have s2 := size_push e2
  have s4 := size_push e4
  have s6 := size_push e6
  have b1 : Blk h6 p1 (tc ⟨0, 0, [], ⟨none, 0, 0⟩⟩) 24 := ((Blk.new hp1 e2).fr f4 (by simp)).fr f6 (by simp)
  have b3 : Blk h6 p3 [.bool false] 4 := (Blk.new (cs := [.bool false]) hp3 e4).fr f6 (by simp)
  have c6 : Cur h6 p5 s 0 := ⟨Blk.new hp5 e6, Nat.zero_le _⟩
  have f06 : Fr [] h h6 := (f2.step f4).step f6
  have g6 := g.fr f06 (by simp)
  refine F_text_cursor_term.mono (term_all _ _ (Nat.le_refl (2 * s.length + 1)) h6 p5 s 0 g6 (by omega) c6 hs (by simp)) ?_ ?_
  · rintro v h8 ⟨t, r, hpt, hvt, f8, j, c8, hj⟩
    rw [List.drop_zero] at hpt
    have b18 := b1.fr f8 (one_not (by omega))
    have b38 := b3.fr f8 (one_not (by omega))
    refine ⟨b18.storable0 4 (Nat.le_refl _), fun h12 e12 => ?_⟩
    have f12 := Fr.sets e12
    have b112 := b18.set0 (vs := tc v) (Nat.le_refl _) e12
    have c12 := c8.fr f12 (one_not (show p5 ≠ p1 by omega))
    refine ⟨v, b112.cells0 rfl, (j : Int), c12.pos, b112.storable0 4 (Nat.le_refl _), fun h15 e15 => ?_⟩
    have f15 := Fr.sets e15
    have b115 := b112.set0 (vs := tc v) (Nat.le_refl _) e15
    have c15 := c12.fr f15 (one_not (show p5 ≠ p1 by omega))
    have b315 := (b38.fr f12 (one_not (show p3 ≠ p1 by omega))).fr f15 (one_not (show p3 ≠ p1 by omega))
    refine ⟨c15.pos, b315.storable0 1 (Nat.le_refl _), fun h17 e17 => ?_⟩
    have f17 := Fr.sets e17
    have b317 := b315.set0 (vs := [.bool ((j : Int) == (s.length : Int))]) (Nat.le_refl _) e17
    have b117 := b115.fr f17 (one_not (show p1 ≠ p3 by omega))
    refine ⟨fun e => by simp at e, fun _ => ?_⟩
    refine ⟨v, b117.cells0 rfl, ((j : Int) == (s.length : Int)), b317.cells0 rfl, ?_⟩
    have hjl := c8.2
    have hP : pRead s = if s.drop j = [] then some t else none := by unfold pRead; rw [hpt, hj]
    have hb : ((j : Int) == (s.length : Int)) = decide (s.drop j = []) := by
      rw [Bool.eq_iff_iff]; simp only [beq_iff_eq, decide_eq_true_eq, drop_nil_iff]; omega
    have ffin : Fr [] h h17 := by
      have a1 : Fr [] h h8 := f06.trans f8 (fun y hy => .inr (by simp at hy; omega))
      have a2 : Fr [] h h12 := a1.trans f12 (fun y hy => .inr (by simp at hy; omega))
      have a3 : Fr [] h h15 := a2.trans f15 (fun y hy => .inr (by simp at hy; omega))
      exact a3.trans f17 (fun y hy => .inr (by simp at hy; omega))
    refine ⟨?_, ?_, ffin⟩
    · rw [hP, hb]
      by_cases hd : s.drop j = []
      · simp [hd]
      · simp [hd]
    · intro t' ht'
      rw [hP] at ht'
      split at ht'
      · injection ht' with ht'
        subst ht'
        have r1 := RepT.fr f12 (fun b hb => by simp; omega) _ _ hvt
        have r2 := RepT.fr f15 (fun b hb => by simp; omega) _ _ r1
        have r3 := RepT.fr f17 (fun b hb => by simp; omega) _ _ r2
        exact RepT.mono (fun b hb => by omega) _ _ r3
      · cases ht'
  · rintro ch h9 ⟨rfl, hpt, f9⟩
    rw [List.drop_zero] at hpt
    have hP : pRead s = none := by unfold pRead; rw [hpt]
    have b19 := b1.fr f9 (one_not (show p1 ≠ p5 by omega))
    have b39 := b3.fr f9 (one_not (show p3 ≠ p5 by omega))
    refine ⟨(104, Value.agg #[]), rfl, fun _ => ?_, fun e => by simp at e⟩
    refine ⟨⟨⟩, true, fun _ => rfl, fun e => by simp at e, fun e => by simp at e, fun _ p3' h5 hn he => ?_⟩
    have b15 := b19.fr he.fr (one_not (by have := hn.1; have := b19.lt; omega))
    have b35 := b39.fr he.fr (one_not (by have := hn.1; have := b39.lt; omega))
    refine ⟨b15.storable0 4 (Nat.le_refl _), fun h6' e6' => ?_⟩
    have f6' := Fr.sets e6'
    have b16 := b15.set0 (vs := tc ⟨0, 0, [], ⟨none, 0, 0⟩⟩) (Nat.le_refl _) e6'
    have b36 := b35.fr f6' (one_not (show p3 ≠ p1 by omega))
    have hle := he.size
    have hl1 := b19.lt
    have hl3 := b39.lt
    refine ⟨f6'.sameOn (fun y hy => by simp at hy; subst hy; exact hn.2) (fun y hy => by simp at hy ⊢; have := hn.1; omega), b36.storable0 1 (Nat.le_refl _), fun h7' e7' => ?_⟩
    have f7' := Fr.sets e7'
    have b37 := b36.set0 (vs := [.bool false]) (Nat.le_refl _) e7'
    have b17 := b16.fr f7' (one_not (show p1 ≠ p3 by omega))
    refine ⟨f7'.sameOn (fun y hy => by simp at hy; subst hy; have := hn.2; have := f6'.1; omega) (fun y hy => by simp at hy ⊢; have := hn.1; omega), ?_⟩
    refine ⟨⟨0, 0, [], ⟨none, 0, 0⟩⟩, b17.cells0 rfl, false, b37.cells0 rfl, by rw [hP]; rfl, (fun t ht => by rw [hP] at ht; cases ht), ?_⟩
    have a1 : Fr [] h h9 := f06.trans f9 (fun y hy => .inr (by simp at hy; omega))
    have hl9 : h.size ≤ h9.size := a1.1
    have a2 : Fr [] h h5 := a1.trans he.fr (fun y hy => .inr (by simp at hy; have := hn.1; omega))
    have a3 : Fr [] h h6' := a2.trans f6' (fun y hy => .inr (by simp at hy; omega))
    exact a3.trans f7' (fun y hy => .inr (by simp at hy; omega))
end Go.Proofs.YtefbonjcpdjhcaaGreatDoor.X
