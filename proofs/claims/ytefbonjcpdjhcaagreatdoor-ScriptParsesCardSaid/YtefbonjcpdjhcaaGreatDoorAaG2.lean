/- A part of the proof: The card of ScriptParses: for every line that the form allows, the law returns true and leaves its argument as it was; the listed package-level variables of Go's library hold what their initialisers lay. -/
import Derived.Test.YtefbonjcpdjhcaaGreatDoorAaG1
/- Normal forms of functions, and that they imply the calls. Printed by a program of ours. -/
set_option linter.unusedVariables false
set_option maxRecDepth 100000
namespace Go.Proofs.YtefbonjcpdjhcaaGreatDoor.X
open Go Go.RowKit

def F_tenureref02_MakeList.body (l : Sl) (a1_tail : V_api_Term) (h : Hp) (K : V_api_Term → Hp → Prop) (X : Chain → Hp → Prop) : Prop :=
∀ (x8 : Int), x8 = IntKind.i64.wrap ((l.len : Int) - 1) → ∀ (p1 : Nat) (p3 : Nat) (p5 : Nat) (h7 : Hp), New p1 h h7 → New p3 h h7 → New p5 h h7 → Ev [p5, p3, p1] h h7 → LoopW (fun (s9 : Int × V_api_Term) h10 next11 =>
(s9.1 ≥ 0 → IdxW l s9.1 (fun (b13 : Addr) => LoadW h10 (b13.add (s9.1.toNat * 4)) V_api_Term.cells (fun (x14 : V_api_Term) => AllocW h10 24 [.int .i64 x14.Kind, .int .i64 x14.N, .string (ba x14.S), sl x14.L, .int .i64 s9.2.Kind, .int .i64 s9.2.N, .string (ba s9.2.S), sl s9.2.L] (fun (p15 : Nat) (h16 : Hp) => ∀ (x18 : Int), x18 = IntKind.i64.wrap (s9.1 - 1) → ∀ (h17 : Hp), Ev [p5, p3, p1] h16 h17 → next11 (x18, (⟨9, 0, ([] : Str), (⟨some ⟨p15, 0, none⟩, 2, 2⟩ : Sl)⟩ : V_api_Term)) h17)))) ∧
(¬ (s9.1 ≥ 0) → ∀ (h19 : Hp), Ev [p5, p3, p1] h10 h19 → K s9.2 h19)) (x8, a1_tail) h7
theorem F_tenureref02_MakeList.sound {l : Sl} {a1_tail : V_api_Term} {h : Hp} {K : V_api_Term → Hp → Prop} {X : Chain → Hp → Prop} (H : F_tenureref02_MakeList.body l a1_tail h K X) : F_tenureref02_MakeList.call l a1_tail h K X := by
  unfold F_tenureref02_MakeList.body at H
  refine CallH.of Tryz.func122 rfl rfl fun w0 hw0 => ?_
  refine JC.seq (JC.region ?_)
  refine JO.s 0 (OpOk.bp [.int .i64 a1_tail.Kind, .int .i64 a1_tail.N, .string (ba a1_tail.S), sl a1_tail.L] 24 ?_)
  intro p1 h2 hp hh
  have hE := Ev.refl [] h
  have hB := KeepB.nil h
  have hNp1 : Array.size h ≤ p1 := hp ▸ hE.size
  have hB : KeepB [(p1, .cells #[.int .i64 a1_tail.Kind, .int .i64 a1_tail.N, .string (ba a1_tail.S), sl a1_tail.L] 24 (0, 0))] h2 := hB.push hp hh
  have hE := hE.push hp hh
  refine JO.s 1 (OpOk.bp [.int .i64 0, .int .i64 0, .string (ba ([] : Str)), sl (⟨none, 0, 0⟩ : Sl)] 24 ?_)
  intro p3 h4 hp hh
  have hNp3 : Array.size h ≤ p3 := hp ▸ hE.size
  have hB : KeepB [(p3, .cells #[.int .i64 0, .int .i64 0, .string (ba ([] : Str)), sl (⟨none, 0, 0⟩ : Sl)] 24 (0, 0)), (p1, .cells #[.int .i64 a1_tail.Kind, .int .i64 a1_tail.N, .string (ba a1_tail.S), sl a1_tail.L] 24 (0, 0))] h4 := hB.push hp hh
  have hE := hE.push hp hh
  refine JO.end_ (JC.next (JC.seq (JC.region ?_)))
  refine JO.y 0 (Yld.lne (KeepB.c hB 1 0 [.int .i64 a1_tail.Kind, .int .i64 a1_tail.N, .string (ba a1_tail.S), sl a1_tail.L])) ?_
  refine JO.s 1 (OpOk.bp [.int .i64 0, .int .i64 0, .string (ba ([] : Str)), sl (⟨none, 0, 0⟩ : Sl)] 24 ?_)
  intro p5 h6 hp hh
  have hNp5 : Array.size h ≤ p5 := hp ▸ hE.size
  have hB : KeepB [(p5, .cells #[.int .i64 0, .int .i64 0, .string (ba ([] : Str)), sl (⟨none, 0, 0⟩ : Sl)] 24 (0, 0)), (p3, .cells #[.int .i64 0, .int .i64 0, .string (ba ([] : Str)), sl (⟨none, 0, 0⟩ : Sl)] 24 (0, 0)), (p1, .cells #[.int .i64 a1_tail.Kind, .int .i64 a1_tail.N, .string (ba a1_tail.S), sl a1_tail.L] 24 (0, 0))] h6 := hB.push hp hh
  have hE := hE.push hp hh
  refine JO.s 2 (OpOk.st [.int .i64 a1_tail.Kind, .int .i64 a1_tail.N, .string (ba a1_tail.S), sl a1_tail.L] (KeepB.st hB 0 0 4) ?_)
  intro h7 hh
  have hE := hE.set hh (by simp [add_block])
  have hB : KeepB [(p5, .cells #[.int .i64 a1_tail.Kind, .int .i64 a1_tail.N, .string (ba a1_tail.S), sl a1_tail.L] 24 (0, 0)), (p3, .cells #[.int .i64 0, .int .i64 0, .string (ba ([] : Str)), sl (⟨none, 0, 0⟩ : Sl)] 24 (0, 0)), (p1, .cells #[.int .i64 a1_tail.Kind, .int .i64 a1_tail.N, .string (ba a1_tail.S), sl a1_tail.L] 24 (0, 0))] h7 := hB.set 0 rfl (off := 0) rfl hh
  refine JO.end_ (JC.next (JC.seq (JC.seq (JC.region ?_))))
  refine JO.p 3 [(10, .int .i64 (IntKind.i64.wrap ((l.len : Int) - 1)))] ?_
  let x8 : Int := IntKind.i64.wrap ((l.len : Int) - 1)
  have H := H x8 rfl
  refine JO.p 4 [(6, .int .i64 x8)] ?_
  refine JO.end_ (JC.next (JC.block ?_))
  have H := H p1 p3 p5 h7 ⟨hNp1, hB.l 2⟩ ⟨hNp3, hB.l 1⟩ ⟨hNp5, hB.l 0⟩ hE
  have hE := Ev.refl [p5, p3, p1] h7
  obtain ⟨I12, μI12, hI12, H⟩ := H
  refine JC.loop (S := Int × V_api_Term) (fun s9 => [(0, sl l), (4, .pointer (some ⟨p3, 0, none⟩)), (5, .pointer (some ⟨p5, 0, none⟩)), (6, .int .i64 s9.1)]) (fun s9 h' => KeepB [(p5, .cells #[.int .i64 s9.2.Kind, .int .i64 s9.2.N, .string (ba s9.2.S), sl s9.2.L] 24 (0, 0)), (p3, .cells #[.int .i64 0, .int .i64 0, .string (ba ([] : Str)), sl (⟨none, 0, 0⟩ : Sl)] 24 (0, 0)), (p1, .cells #[.int .i64 a1_tail.Kind, .int .i64 a1_tail.N, .string (ba a1_tail.S), sl a1_tail.L] 24 (0, 0))] h' ∧ I12 s9 h') μI12 (x8, a1_tail) Sub.kk ⟨hB, hI12⟩ ?_
  rintro s9 h10 ⟨hB, hI⟩
  have H := H s9 h10 hI
  have hE := Ev.refl [p5, p3, p1] h10
  refine JC.seq (JC.seq (JC.region ?_))
  refine JO.p 2 [(12, .bool (decide (s9.1 ≥ 0)))] ?_
  refine JO.end_ (JC.next ?_)
  refine JC.cd (decide (s9.1 ≥ 0)) (fun hb => ?_) (fun hb => ?_)
  · have H := H.1 (of_decide_eq_true hb)
    refine JC.skip (JC.next (JC.seq (JC.block ?_)))
    refine JC.rd 8 ?_
    refine JD.rr 0 (sl l) ?_
    refine JD.rr 1 (.int .i64 s9.1) ?_
    obtain ⟨qb13, qb13', b13, eb13, H⟩ := H
    refine JD.t 2 (Yld.ia 24 4 .i64 l b13 s9.1 ⟨qb13, qb13'⟩ eb13) ?_
    obtain ⟨x14, lx14, H⟩ := H
    refine JD.hold (HoldS.cells 3 lx14) ?_
    refine JD.t 3 Yld.lnh ?_
    refine JD.hold (HoldS.cells 4 (KeepB.c hB 0 0 [.int .i64 s9.2.Kind, .int .i64 s9.2.N, .string (ba s9.2.S), sl s9.2.L])) ?_
    refine JD.t 4 Yld.lnh ?_
    refine JD.o 5 (OpOk.bs 2 [.int .i64 x14.Kind, .int .i64 x14.N, .string (ba x14.S), sl x14.L, .int .i64 s9.2.Kind, .int .i64 s9.2.N, .string (ba s9.2.S), sl s9.2.L] 24 ?_)
    intro p15 h16 hp hh
    have H := H p15 h16 hp hh
    have hB := hB.grow hh
    have hE := Ev.refl [p5, p3, p1] h16
    refine ⟨(HoldS.drop 4 5 (HoldS.drop 3 5 HoldS.nil)), ?_⟩
    refine JD.rr 6 (.agg #[.int .i64 9, .int .i64 0, .string (ba ([] : Str)), sl (⟨some ⟨p15, 0, none⟩, 2, 2⟩ : Sl)]) ?_
    refine JD.o 7 (OpOk.st [.int .i64 9, .int .i64 0, .string (ba ([] : Str)), sl (⟨some ⟨p15, 0, none⟩, 2, 2⟩ : Sl)] (KeepB.st hB 0 0 4) ?_)
    intro h17 hh
    have hE := hE.set hh (by simp [add_block])
    have hB : KeepB [(p5, .cells #[.int .i64 9, .int .i64 0, .string (ba ([] : Str)), sl (⟨some ⟨p15, 0, none⟩, 2, 2⟩ : Sl)] 24 (0, 0)), (p3, .cells #[.int .i64 0, .int .i64 0, .string (ba ([] : Str)), sl (⟨none, 0, 0⟩ : Sl)] 24 (0, 0)), (p1, .cells #[.int .i64 a1_tail.Kind, .int .i64 a1_tail.N, .string (ba a1_tail.S), sl a1_tail.L] 24 (0, 0))] h17 := hB.set 0 rfl (off := 0) rfl hh
    refine ⟨(HoldS.drop 4 5 (HoldS.drop 3 5 HoldS.nil)), ?_⟩
    refine JD.e ?_
    refine JC.next (JC.region ?_)
    refine JO.p 2 [(14, .int .i64 (IntKind.i64.wrap (s9.1 - 1)))] ?_
    let x18 : Int := IntKind.i64.wrap (s9.1 - 1)
    have H := H x18 rfl
    refine JO.p 3 [(6, .int .i64 x18)] ?_
    refine JO.end_ ?_
    have H := H h17 hE
    have hE := Ev.refl [p5, p3, p1] h17
    exact JK.inv (x18, (⟨9, 0, ([] : Str), (⟨some ⟨p15, 0, none⟩, 2, 2⟩ : Sl)⟩ : V_api_Term)) Sub.kk ⟨⟨hB, H.1⟩, H.2⟩
  · have H := H.2 (of_decide_eq_false hb)
    refine JC.exit rfl ?_
    refine JC.next (JC.seq (JC.region ?_))
    refine JO.y 0 (Yld.lne (KeepB.c hB 0 0 [.int .i64 s9.2.Kind, .int .i64 s9.2.N, .string (ba s9.2.S), sl s9.2.L])) ?_
    refine JO.s 1 (OpOk.st [.int .i64 s9.2.Kind, .int .i64 s9.2.N, .string (ba s9.2.S), sl s9.2.L] (KeepB.st hB 1 0 4) ?_)
    intro h19 hh
    have hE := hE.set hh (by simp [add_block])
    have hB : KeepB [(p5, .cells #[.int .i64 s9.2.Kind, .int .i64 s9.2.N, .string (ba s9.2.S), sl s9.2.L] 24 (0, 0)), (p3, .cells #[.int .i64 s9.2.Kind, .int .i64 s9.2.N, .string (ba s9.2.S), sl s9.2.L] 24 (0, 0)), (p1, .cells #[.int .i64 a1_tail.Kind, .int .i64 a1_tail.N, .string (ba a1_tail.S), sl a1_tail.L] 24 (0, 0))] h19 := hB.set 1 rfl (off := 0) rfl hh
    refine JO.end_ (JC.next (JC.ret ?_))
    have H := H h19 hE
    have hE := Ev.refl [p5, p3, p1] h19
    exact JK.retG1 (.agg #[.int .i64 s9.2.Kind, .int .i64 s9.2.N, .string (ba s9.2.S), sl s9.2.L]) rfl (RVal.bN p3 24 hB 1) ⟨s9.2, by kernel_rfl, H⟩

def F_tenureref02_own.body (t : V_api_Term) (h : Hp) (K : Bool → Hp → Prop) (X : Chain → Hp → Prop) : Prop :=
((t.Kind == 1) = true → ∀ (p1 : Nat) (h2 : Hp), New p1 h h2 → Ev [p1] h h2 → K ((((decide (t.N ≥ (-576460752303423488))) && (decide (t.N ≤ 576460752303423487))) && (cmpS .eql t.S ([] : Str))) && ((t.L.len : Int) == 0)) h2) ∧
((t.Kind == 1) = false → ((t.Kind == 2) = true → ∀ (p1 : Nat) (h2 : Hp), New p1 h h2 → Ev [p1] h h2 → K (((t.N == 0) && (decide ((t.S.length : Int) ≤ 64))) && ((t.L.len : Int) == 0)) h2) ∧
((t.Kind == 2) = false → ∀ (p1 : Nat) (h2 : Hp), New p1 h h2 → Ev [p1] h h2 → JoinW (fun (k8 : Bool → Hp → Prop) =>
((t.Kind == 3) = true → k8 (t.Kind == 3) h2) ∧
((t.Kind == 3) = false → ((t.Kind == 4) = true → k8 (t.Kind == 4) h2) ∧
((t.Kind == 4) = false → k8 (t.Kind == 6) h2))) (fun (s9 : Bool) h10 =>
(s9 = true → (LtAll [p1] h10 → F_tenureref02_numbered.call t.N h10 (fun (r11 : Bool) (h12 : Hp) => SameOn [p1] h10 h12 ∧ K ((r11 && (cmpS .eql t.S ([] : Str))) && ((t.L.len : Int) == 0)) h12) X)) ∧
(s9 = false → ((t.Kind == 5) = true → (LtAll [p1] h10 → F_tenureref02_numbered.call t.N h10 (fun (r15 : Bool) (h16 : Hp) => SameOn [p1] h10 h16 ∧ K ((r15 && (cmpS .eql t.S ([] : Str))) && (decide ((t.L.len : Int) ≤ 64))) h16) X)) ∧
((t.Kind == 5) = false → ((t.Kind == 7) = true → K (((t.N == 0) && (cmpS .eql t.S ([] : Str))) && (decide ((t.L.len : Int) ≤ 64))) h10) ∧
((t.Kind == 7) = false → ((t.Kind == 8) = true → K (((t.N == 0) && (cmpS .eql t.S ([] : Str))) && ((t.L.len : Int) == 0)) h10) ∧
((t.Kind == 8) = false → ((t.Kind == 9) = true → K (((t.N == 0) && (cmpS .eql t.S ([] : Str))) && ((t.L.len : Int) == 2)) h10) ∧
((t.Kind == 9) = false → K false h10))))))))
theorem F_tenureref02_own.sound {t : V_api_Term} {h : Hp} {K : Bool → Hp → Prop} {X : Chain → Hp → Prop} (H : F_tenureref02_own.body t h K X) : F_tenureref02_own.call t h K X := by
  unfold F_tenureref02_own.body at H
  refine CallH.of Tryz.func123 rfl rfl fun w0 hw0 => ?_
  refine JC.seq (JC.region ?_)
  refine JO.s 0 (OpOk.bp [.int .i64 t.Kind, .int .i64 t.N, .string (ba t.S), sl t.L] 24 ?_)
  intro p1 h2 hp hh
  have hE := Ev.refl [] h
  have hB := KeepB.nil h
  have hNp1 : Array.size h ≤ p1 := hp ▸ hE.size
  have hB : KeepB [(p1, .cells #[.int .i64 t.Kind, .int .i64 t.N, .string (ba t.S), sl t.L] 24 (0, 0))] h2 := hB.push hp hh
  have hE := hE.push hp hh
  refine JO.p 2 [(2, .bool false)] ?_
  refine JO.end_ (JC.next (JC.seq (JC.seq (JC.region ?_))))
  refine JO.p 1 [(3, .pointer (some ((⟨p1, 0, none⟩ : Addr).add 0)))] ?_
  refine JO.y 1 (Yld.le (KeepB.c hB 0 0 [.int .i64 t.Kind])) ?_
  refine JO.end_ (JC.next (JC.block (JC.seq (JC.region ?_))))
  refine JO.p 2 [(5, .bool (t.Kind == 1))] ?_
  refine JO.end_ (JC.next ?_)
  refine JC.cd (t.Kind == 1) (fun hb => ?_) (fun hb => ?_)
  · have H := H.1 (hb)
    refine JC.seq (JC.region ?_)
    refine JO.p 1 [(7, .pointer (some ((⟨p1, 0, none⟩ : Addr).add 1)))] ?_
    refine JO.y 1 (Yld.le (KeepB.c hB 0 1 [.int .i64 t.N])) ?_
    refine JO.p 4 [(10, .bool (decide (t.N ≥ (-576460752303423488))))] ?_
    refine JO.jq 8 [(1, .pointer (some ⟨p1, 0, none⟩)), (14, .bool ((decide (t.N ≥ (-576460752303423488))) && (decide (t.N ≤ 576460752303423487))))] ?_ ?_
    · refine JO.cs 10 (decide (t.N ≥ (-576460752303423488))) (fun hc3 => ?_) (fun hc3 => ?_)
      · refine JO.p 5 [(11, .pointer (some ((⟨p1, 0, none⟩ : Addr).add 1)))] ?_
        refine JO.y 5 (Yld.le (KeepB.c hB 0 1 [.int .i64 t.N])) ?_
        refine JO.p 8 [(14, .bool (decide (t.N ≤ 576460752303423487)))] ?_
        refine JO.end_ ?_
        exact JK.invQ (Sub.of (by (try rw [hc3]); first | done | kernel_rfl))
      · refine JO.p 8 [(14, .bool false)] ?_
        refine JO.end_ ?_
        exact JK.invQ (Sub.of (by (try rw [hc3]); first | done | kernel_rfl))
    refine JO.p 9 [(15, .bool ((decide (t.N ≥ (-576460752303423488))) && (decide (t.N ≤ 576460752303423487))))] ?_
    refine JO.jq 13 [(1, .pointer (some ⟨p1, 0, none⟩)), (19, .bool (((decide (t.N ≥ (-576460752303423488))) && (decide (t.N ≤ 576460752303423487))) && (cmpS .eql t.S ([] : Str))))] ?_ ?_
    · refine JO.cs 15 ((decide (t.N ≥ (-576460752303423488))) && (decide (t.N ≤ 576460752303423487))) (fun hc4 => ?_) (fun hc4 => ?_)
      · refine JO.p 10 [(16, .pointer (some ((⟨p1, 0, none⟩ : Addr).add 2)))] ?_
        refine JO.y 10 (Yld.le (KeepB.c hB 0 2 [.string (ba t.S)])) ?_
        refine JO.y 11 (Yld.cp .eql t.S ([] : Str)) ?_
        refine JO.p 13 [(19, .bool (cmpS .eql t.S ([] : Str)))] ?_
        refine JO.end_ ?_
        exact JK.invQ (Sub.of (by (try rw [hc4]); first | done | kernel_rfl))
      · refine JO.p 13 [(19, .bool false)] ?_
        refine JO.end_ ?_
        exact JK.invQ (Sub.of (by (try rw [hc4]); first | done | kernel_rfl))
    refine JO.p 14 [(20, .bool (((decide (t.N ≥ (-576460752303423488))) && (decide (t.N ≤ 576460752303423487))) && (cmpS .eql t.S ([] : Str))))] ?_
    refine JO.jq 19 [(25, .bool ((((decide (t.N ≥ (-576460752303423488))) && (decide (t.N ≤ 576460752303423487))) && (cmpS .eql t.S ([] : Str))) && ((t.L.len : Int) == 0)))] ?_ ?_
    · refine JO.cs 20 (((decide (t.N ≥ (-576460752303423488))) && (decide (t.N ≤ 576460752303423487))) && (cmpS .eql t.S ([] : Str))) (fun hc5 => ?_) (fun hc5 => ?_)
      · refine JO.p 15 [(21, .pointer (some ((⟨p1, 0, none⟩ : Addr).add 3)))] ?_
        refine JO.y 15 (Yld.le (KeepB.c hB 0 3 [sl t.L])) ?_
        refine JO.p 19 [(25, .bool ((t.L.len : Int) == 0))] ?_
        refine JO.end_ ?_
        exact JK.invQ (Sub.of (by (try rw [hc5]); first | done | kernel_rfl))
      · refine JO.p 19 [(25, .bool false)] ?_
        refine JO.end_ ?_
        exact JK.invQ (Sub.of (by (try rw [hc5]); first | done | kernel_rfl))
    refine JO.p 20 [(2, .bool ((((decide (t.N ≥ (-576460752303423488))) && (decide (t.N ≤ 576460752303423487))) && (cmpS .eql t.S ([] : Str))) && ((t.L.len : Int) == 0)))] ?_
    refine JO.end_ (JC.next (JC.ret ?_))
    have H := H p1 h2 ⟨hNp1, hB.l 0⟩ hE
    have hE := Ev.refl [p1] h2
    exact JK.retG1 (.bool ((((decide (t.N ≥ (-576460752303423488))) && (decide (t.N ≤ 576460752303423487))) && (cmpS .eql t.S ([] : Str))) && ((t.L.len : Int) == 0))) rfl RVal.s ⟨(((decide (t.N ≥ (-576460752303423488))) && (decide (t.N ≤ 576460752303423487))) && (cmpS .eql t.S ([] : Str))) && ((t.L.len : Int) == 0), by kernel_rfl, H⟩
  · have H := H.2 (hb)
    refine JC.seq (JC.region ?_)
    refine JO.p 2 [(26, .bool (t.Kind == 2))] ?_
    refine JO.end_ (JC.next ?_)
    refine JC.cd (t.Kind == 2) (fun hb => ?_) (fun hb => ?_)
    · have H := H.1 (hb)
      refine JC.seq (JC.region ?_)
      refine JO.p 1 [(28, .pointer (some ((⟨p1, 0, none⟩ : Addr).add 1)))] ?_
      refine JO.y 1 (Yld.le (KeepB.c hB 0 1 [.int .i64 t.N])) ?_
      refine JO.p 4 [(31, .bool (t.N == 0))] ?_
      refine JO.jq 9 [(1, .pointer (some ⟨p1, 0, none⟩)), (36, .bool ((t.N == 0) && (decide ((t.S.length : Int) ≤ 64))))] ?_ ?_
      · refine JO.cs 31 (t.N == 0) (fun hc6 => ?_) (fun hc6 => ?_)
        · refine JO.p 5 [(32, .pointer (some ((⟨p1, 0, none⟩ : Addr).add 2)))] ?_
          refine JO.y 5 (Yld.le (KeepB.c hB 0 2 [.string (ba t.S)])) ?_
          refine JO.p 9 [(36, .bool (decide ((t.S.length : Int) ≤ 64)))] ?_
          refine JO.end_ ?_
          exact JK.invQ (Sub.of (by (try rw [hc6]); first | done | kernel_rfl))
        · refine JO.p 9 [(36, .bool false)] ?_
          refine JO.end_ ?_
          exact JK.invQ (Sub.of (by (try rw [hc6]); first | done | kernel_rfl))
      refine JO.p 10 [(37, .bool ((t.N == 0) && (decide ((t.S.length : Int) ≤ 64))))] ?_
      refine JO.jq 15 [(42, .bool (((t.N == 0) && (decide ((t.S.length : Int) ≤ 64))) && ((t.L.len : Int) == 0)))] ?_ ?_
      · refine JO.cs 37 ((t.N == 0) && (decide ((t.S.length : Int) ≤ 64))) (fun hc7 => ?_) (fun hc7 => ?_)
        · refine JO.p 11 [(38, .pointer (some ((⟨p1, 0, none⟩ : Addr).add 3)))] ?_
          refine JO.y 11 (Yld.le (KeepB.c hB 0 3 [sl t.L])) ?_
          refine JO.p 15 [(42, .bool ((t.L.len : Int) == 0))] ?_
          refine JO.end_ ?_
          exact JK.invQ (Sub.of (by (try rw [hc7]); first | done | kernel_rfl))
        · refine JO.p 15 [(42, .bool false)] ?_
          refine JO.end_ ?_
          exact JK.invQ (Sub.of (by (try rw [hc7]); first | done | kernel_rfl))
      refine JO.p 16 [(2, .bool (((t.N == 0) && (decide ((t.S.length : Int) ≤ 64))) && ((t.L.len : Int) == 0)))] ?_
      refine JO.end_ (JC.next (JC.ret ?_))
      have H := H p1 h2 ⟨hNp1, hB.l 0⟩ hE
      have hE := Ev.refl [p1] h2
      exact JK.retG1 (.bool (((t.N == 0) && (decide ((t.S.length : Int) ≤ 64))) && ((t.L.len : Int) == 0))) rfl RVal.s ⟨((t.N == 0) && (decide ((t.S.length : Int) ≤ 64))) && ((t.L.len : Int) == 0), by kernel_rfl, H⟩
    · have H := H.2 (hb)
      have H := H p1 h2 ⟨hNp1, hB.l 0⟩ hE
      have hE := Ev.refl [p1] h2
      obtain ⟨k8, H, Hk8⟩ := H
      refine JC.join (S := Bool) (fun s9 => [(1, .pointer (some ⟨p1, 0, none⟩)), (4, .int .i64 t.Kind), (43, .bool s9)]) (fun s9 h' => KeepB [(p1, .cells #[.int .i64 t.Kind, .int .i64 t.N, .string (ba t.S), sl t.L] 24 (0, 0))] h' ∧ k8 s9 h') ?_ ?_
      · refine JC.seq (JC.region ?_)
        refine JO.p 2 [(43, .bool (t.Kind == 3))] ?_
        refine JO.end_ (JC.next ?_)
        refine JC.cd (t.Kind == 3) (fun hb => ?_) (fun hb => ?_)
        · have H := H.1 (hb)
          refine JC.skip ?_
          exact JK.inv (t.Kind == 3) Sub.kk ⟨hB, H⟩
        · have H := H.2 (hb)
          refine JC.seq (JC.region ?_)
          refine JO.p 2 [(43, .bool (t.Kind == 4))] ?_
          refine JO.end_ (JC.next ?_)
          refine JC.cd (t.Kind == 4) (fun hb => ?_) (fun hb => ?_)
          · have H := H.1 (hb)
            refine JC.skip ?_
            exact JK.inv (t.Kind == 4) Sub.kk ⟨hB, H⟩
          · have H := H.2 (hb)
            refine JC.region ?_
            refine JO.p 2 [(43, .bool (t.Kind == 6))] ?_
            refine JO.end_ ?_
            exact JK.inv (t.Kind == 6) Sub.kk ⟨hB, H⟩
      · rintro s9 h10 ⟨hB, hk⟩
        have H := Hk8 s9 h10 hk
        have hE := Ev.refl [p1] h10
        refine JC.cd s9 (fun hb => ?_) (fun hb => ?_)
        · have H := H.1 (hb)
          refine JC.seq (JC.region ?_)
          refine JO.p 1 [(47, .pointer (some ((⟨p1, 0, none⟩ : Addr).add 1)))] ?_
          refine JO.y 1 (Yld.le (KeepB.c hB 0 1 [.int .i64 t.N])) ?_
          have H := H hB.ltAll
          refine JO.s 2 (OpOk.c (CallH.mono H ?_ fun _ _ hx => hx))
          rintro _ h12 ⟨r11, rfl, hS, H⟩
          have hB := hB.same hS
          have hE := Ev.refl [p1] h12
          refine JO.p 4 [(50, .bool r11)] ?_
          refine JO.jq 8 [(1, .pointer (some ⟨p1, 0, none⟩)), (54, .bool (r11 && (cmpS .eql t.S ([] : Str))))] ?_ ?_
          · refine JO.cs 50 r11 (fun hc13 => ?_) (fun hc13 => ?_)
            · refine JO.p 5 [(51, .pointer (some ((⟨p1, 0, none⟩ : Addr).add 2)))] ?_
              refine JO.y 5 (Yld.le (KeepB.c hB 0 2 [.string (ba t.S)])) ?_
              refine JO.y 6 (Yld.cp .eql t.S ([] : Str)) ?_
              refine JO.p 8 [(54, .bool (cmpS .eql t.S ([] : Str)))] ?_
              refine JO.end_ ?_
              exact JK.invQ (Sub.of (by (try rw [hc13]); first | done | kernel_rfl))
            · refine JO.p 8 [(54, .bool false)] ?_
              refine JO.end_ ?_
              exact JK.invQ (Sub.of (by (try rw [hc13]); first | done | kernel_rfl))
          refine JO.p 9 [(55, .bool (r11 && (cmpS .eql t.S ([] : Str))))] ?_
          refine JO.jq 14 [(60, .bool ((r11 && (cmpS .eql t.S ([] : Str))) && ((t.L.len : Int) == 0)))] ?_ ?_
          · refine JO.cs 55 (r11 && (cmpS .eql t.S ([] : Str))) (fun hc14 => ?_) (fun hc14 => ?_)
            · refine JO.p 10 [(56, .pointer (some ((⟨p1, 0, none⟩ : Addr).add 3)))] ?_
              refine JO.y 10 (Yld.le (KeepB.c hB 0 3 [sl t.L])) ?_
              refine JO.p 14 [(60, .bool ((t.L.len : Int) == 0))] ?_
              refine JO.end_ ?_
              exact JK.invQ (Sub.of (by (try rw [hc14]); first | done | kernel_rfl))
            · refine JO.p 14 [(60, .bool false)] ?_
              refine JO.end_ ?_
              exact JK.invQ (Sub.of (by (try rw [hc14]); first | done | kernel_rfl))
          refine JO.p 15 [(2, .bool ((r11 && (cmpS .eql t.S ([] : Str))) && ((t.L.len : Int) == 0)))] ?_
          refine JO.end_ (JC.next (JC.ret ?_))
          exact JK.retG1 (.bool ((r11 && (cmpS .eql t.S ([] : Str))) && ((t.L.len : Int) == 0))) rfl RVal.s ⟨(r11 && (cmpS .eql t.S ([] : Str))) && ((t.L.len : Int) == 0), by kernel_rfl, H⟩
        · have H := H.2 (hb)
          refine JC.seq (JC.region ?_)
          refine JO.p 2 [(61, .bool (t.Kind == 5))] ?_
          refine JO.end_ (JC.next ?_)
          refine JC.cd (t.Kind == 5) (fun hb => ?_) (fun hb => ?_)
          · have H := H.1 (hb)
            refine JC.seq (JC.region ?_)
            refine JO.p 1 [(63, .pointer (some ((⟨p1, 0, none⟩ : Addr).add 1)))] ?_
            refine JO.y 1 (Yld.le (KeepB.c hB 0 1 [.int .i64 t.N])) ?_
            have H := H hB.ltAll
            refine JO.s 2 (OpOk.c (CallH.mono H ?_ fun _ _ hx => hx))
            rintro _ h16 ⟨r15, rfl, hS, H⟩
            have hB := hB.same hS
            have hE := Ev.refl [p1] h16
            refine JO.p 4 [(66, .bool r15)] ?_
            refine JO.jq 8 [(1, .pointer (some ⟨p1, 0, none⟩)), (70, .bool (r15 && (cmpS .eql t.S ([] : Str))))] ?_ ?_
            · refine JO.cs 66 r15 (fun hc17 => ?_) (fun hc17 => ?_)
              · refine JO.p 5 [(67, .pointer (some ((⟨p1, 0, none⟩ : Addr).add 2)))] ?_
                refine JO.y 5 (Yld.le (KeepB.c hB 0 2 [.string (ba t.S)])) ?_
                refine JO.y 6 (Yld.cp .eql t.S ([] : Str)) ?_
                refine JO.p 8 [(70, .bool (cmpS .eql t.S ([] : Str)))] ?_
                refine JO.end_ ?_
                exact JK.invQ (Sub.of (by (try rw [hc17]); first | done | kernel_rfl))
              · refine JO.p 8 [(70, .bool false)] ?_
                refine JO.end_ ?_
                exact JK.invQ (Sub.of (by (try rw [hc17]); first | done | kernel_rfl))
            refine JO.p 9 [(71, .bool (r15 && (cmpS .eql t.S ([] : Str))))] ?_
            refine JO.jq 14 [(76, .bool ((r15 && (cmpS .eql t.S ([] : Str))) && (decide ((t.L.len : Int) ≤ 64))))] ?_ ?_
            · refine JO.cs 71 (r15 && (cmpS .eql t.S ([] : Str))) (fun hc18 => ?_) (fun hc18 => ?_)
              · refine JO.p 10 [(72, .pointer (some ((⟨p1, 0, none⟩ : Addr).add 3)))] ?_
                refine JO.y 10 (Yld.le (KeepB.c hB 0 3 [sl t.L])) ?_
                refine JO.p 14 [(76, .bool (decide ((t.L.len : Int) ≤ 64)))] ?_
                refine JO.end_ ?_
                exact JK.invQ (Sub.of (by (try rw [hc18]); first | done | kernel_rfl))
              · refine JO.p 14 [(76, .bool false)] ?_
                refine JO.end_ ?_
                exact JK.invQ (Sub.of (by (try rw [hc18]); first | done | kernel_rfl))
            refine JO.p 15 [(2, .bool ((r15 && (cmpS .eql t.S ([] : Str))) && (decide ((t.L.len : Int) ≤ 64))))] ?_
            refine JO.end_ (JC.next (JC.ret ?_))
            exact JK.retG1 (.bool ((r15 && (cmpS .eql t.S ([] : Str))) && (decide ((t.L.len : Int) ≤ 64)))) rfl RVal.s ⟨(r15 && (cmpS .eql t.S ([] : Str))) && (decide ((t.L.len : Int) ≤ 64)), by kernel_rfl, H⟩
          · have H := H.2 (hb)
            refine JC.seq (JC.region ?_)
            refine JO.p 2 [(77, .bool (t.Kind == 7))] ?_
            refine JO.end_ (JC.next ?_)
            refine JC.cd (t.Kind == 7) (fun hb => ?_) (fun hb => ?_)
            · have H := H.1 (hb)
              refine JC.seq (JC.region ?_)
              refine JO.p 1 [(79, .pointer (some ((⟨p1, 0, none⟩ : Addr).add 1)))] ?_
              refine JO.y 1 (Yld.le (KeepB.c hB 0 1 [.int .i64 t.N])) ?_
              refine JO.p 4 [(82, .bool (t.N == 0))] ?_
              refine JO.jq 8 [(1, .pointer (some ⟨p1, 0, none⟩)), (86, .bool ((t.N == 0) && (cmpS .eql t.S ([] : Str))))] ?_ ?_
              · refine JO.cs 82 (t.N == 0) (fun hc19 => ?_) (fun hc19 => ?_)
                · refine JO.p 5 [(83, .pointer (some ((⟨p1, 0, none⟩ : Addr).add 2)))] ?_
                  refine JO.y 5 (Yld.le (KeepB.c hB 0 2 [.string (ba t.S)])) ?_
                  refine JO.y 6 (Yld.cp .eql t.S ([] : Str)) ?_
                  refine JO.p 8 [(86, .bool (cmpS .eql t.S ([] : Str)))] ?_
                  refine JO.end_ ?_
                  exact JK.invQ (Sub.of (by (try rw [hc19]); first | done | kernel_rfl))
                · refine JO.p 8 [(86, .bool false)] ?_
                  refine JO.end_ ?_
                  exact JK.invQ (Sub.of (by (try rw [hc19]); first | done | kernel_rfl))
              refine JO.p 9 [(87, .bool ((t.N == 0) && (cmpS .eql t.S ([] : Str))))] ?_
              refine JO.jq 14 [(92, .bool (((t.N == 0) && (cmpS .eql t.S ([] : Str))) && (decide ((t.L.len : Int) ≤ 64))))] ?_ ?_
              · refine JO.cs 87 ((t.N == 0) && (cmpS .eql t.S ([] : Str))) (fun hc20 => ?_) (fun hc20 => ?_)
                · refine JO.p 10 [(88, .pointer (some ((⟨p1, 0, none⟩ : Addr).add 3)))] ?_
                  refine JO.y 10 (Yld.le (KeepB.c hB 0 3 [sl t.L])) ?_
                  refine JO.p 14 [(92, .bool (decide ((t.L.len : Int) ≤ 64)))] ?_
                  refine JO.end_ ?_
                  exact JK.invQ (Sub.of (by (try rw [hc20]); first | done | kernel_rfl))
                · refine JO.p 14 [(92, .bool false)] ?_
                  refine JO.end_ ?_
                  exact JK.invQ (Sub.of (by (try rw [hc20]); first | done | kernel_rfl))
              refine JO.p 15 [(2, .bool (((t.N == 0) && (cmpS .eql t.S ([] : Str))) && (decide ((t.L.len : Int) ≤ 64))))] ?_
              refine JO.end_ (JC.next (JC.ret ?_))
              exact JK.retG1 (.bool (((t.N == 0) && (cmpS .eql t.S ([] : Str))) && (decide ((t.L.len : Int) ≤ 64)))) rfl RVal.s ⟨((t.N == 0) && (cmpS .eql t.S ([] : Str))) && (decide ((t.L.len : Int) ≤ 64)), by kernel_rfl, H⟩
            · have H := H.2 (hb)
              refine JC.seq (JC.region ?_)
              refine JO.p 2 [(93, .bool (t.Kind == 8))] ?_
              refine JO.end_ (JC.next ?_)
              refine JC.cd (t.Kind == 8) (fun hb => ?_) (fun hb => ?_)
              · have H := H.1 (hb)
                refine JC.seq (JC.region ?_)
                refine JO.p 1 [(95, .pointer (some ((⟨p1, 0, none⟩ : Addr).add 1)))] ?_
                refine JO.y 1 (Yld.le (KeepB.c hB 0 1 [.int .i64 t.N])) ?_
                refine JO.p 4 [(98, .bool (t.N == 0))] ?_
                refine JO.jq 8 [(1, .pointer (some ⟨p1, 0, none⟩)), (102, .bool ((t.N == 0) && (cmpS .eql t.S ([] : Str))))] ?_ ?_
                · refine JO.cs 98 (t.N == 0) (fun hc21 => ?_) (fun hc21 => ?_)
                  · refine JO.p 5 [(99, .pointer (some ((⟨p1, 0, none⟩ : Addr).add 2)))] ?_
                    refine JO.y 5 (Yld.le (KeepB.c hB 0 2 [.string (ba t.S)])) ?_
                    refine JO.y 6 (Yld.cp .eql t.S ([] : Str)) ?_
                    refine JO.p 8 [(102, .bool (cmpS .eql t.S ([] : Str)))] ?_
                    refine JO.end_ ?_
                    exact JK.invQ (Sub.of (by (try rw [hc21]); first | done | kernel_rfl))
                  · refine JO.p 8 [(102, .bool false)] ?_
                    refine JO.end_ ?_
                    exact JK.invQ (Sub.of (by (try rw [hc21]); first | done | kernel_rfl))
                refine JO.p 9 [(103, .bool ((t.N == 0) && (cmpS .eql t.S ([] : Str))))] ?_
                refine JO.jq 14 [(108, .bool (((t.N == 0) && (cmpS .eql t.S ([] : Str))) && ((t.L.len : Int) == 0)))] ?_ ?_
                · refine JO.cs 103 ((t.N == 0) && (cmpS .eql t.S ([] : Str))) (fun hc22 => ?_) (fun hc22 => ?_)
                  · refine JO.p 10 [(104, .pointer (some ((⟨p1, 0, none⟩ : Addr).add 3)))] ?_
                    refine JO.y 10 (Yld.le (KeepB.c hB 0 3 [sl t.L])) ?_
                    refine JO.p 14 [(108, .bool ((t.L.len : Int) == 0))] ?_
                    refine JO.end_ ?_
                    exact JK.invQ (Sub.of (by (try rw [hc22]); first | done | kernel_rfl))
                  · refine JO.p 14 [(108, .bool false)] ?_
                    refine JO.end_ ?_
                    exact JK.invQ (Sub.of (by (try rw [hc22]); first | done | kernel_rfl))
                refine JO.p 15 [(2, .bool (((t.N == 0) && (cmpS .eql t.S ([] : Str))) && ((t.L.len : Int) == 0)))] ?_
                refine JO.end_ (JC.next (JC.ret ?_))
                exact JK.retG1 (.bool (((t.N == 0) && (cmpS .eql t.S ([] : Str))) && ((t.L.len : Int) == 0))) rfl RVal.s ⟨((t.N == 0) && (cmpS .eql t.S ([] : Str))) && ((t.L.len : Int) == 0), by kernel_rfl, H⟩
              · have H := H.2 (hb)
                refine JC.seq (JC.region ?_)
                refine JO.p 2 [(109, .bool (t.Kind == 9))] ?_
                refine JO.end_ (JC.next ?_)
                refine JC.cd (t.Kind == 9) (fun hb => ?_) (fun hb => ?_)
                · have H := H.1 (hb)
                  refine JC.seq (JC.region ?_)
                  refine JO.p 1 [(111, .pointer (some ((⟨p1, 0, none⟩ : Addr).add 1)))] ?_
                  refine JO.y 1 (Yld.le (KeepB.c hB 0 1 [.int .i64 t.N])) ?_
                  refine JO.p 4 [(114, .bool (t.N == 0))] ?_
                  refine JO.jq 8 [(1, .pointer (some ⟨p1, 0, none⟩)), (118, .bool ((t.N == 0) && (cmpS .eql t.S ([] : Str))))] ?_ ?_
                  · refine JO.cs 114 (t.N == 0) (fun hc23 => ?_) (fun hc23 => ?_)
                    · refine JO.p 5 [(115, .pointer (some ((⟨p1, 0, none⟩ : Addr).add 2)))] ?_
                      refine JO.y 5 (Yld.le (KeepB.c hB 0 2 [.string (ba t.S)])) ?_
                      refine JO.y 6 (Yld.cp .eql t.S ([] : Str)) ?_
                      refine JO.p 8 [(118, .bool (cmpS .eql t.S ([] : Str)))] ?_
                      refine JO.end_ ?_
                      exact JK.invQ (Sub.of (by (try rw [hc23]); first | done | kernel_rfl))
                    · refine JO.p 8 [(118, .bool false)] ?_
                      refine JO.end_ ?_
                      exact JK.invQ (Sub.of (by (try rw [hc23]); first | done | kernel_rfl))
                  refine JO.p 9 [(119, .bool ((t.N == 0) && (cmpS .eql t.S ([] : Str))))] ?_
                  refine JO.jq 14 [(124, .bool (((t.N == 0) && (cmpS .eql t.S ([] : Str))) && ((t.L.len : Int) == 2)))] ?_ ?_
                  · refine JO.cs 119 ((t.N == 0) && (cmpS .eql t.S ([] : Str))) (fun hc24 => ?_) (fun hc24 => ?_)
                    · refine JO.p 10 [(120, .pointer (some ((⟨p1, 0, none⟩ : Addr).add 3)))] ?_
                      refine JO.y 10 (Yld.le (KeepB.c hB 0 3 [sl t.L])) ?_
                      refine JO.p 14 [(124, .bool ((t.L.len : Int) == 2))] ?_
                      refine JO.end_ ?_
                      exact JK.invQ (Sub.of (by (try rw [hc24]); first | done | kernel_rfl))
                    · refine JO.p 14 [(124, .bool false)] ?_
                      refine JO.end_ ?_
                      exact JK.invQ (Sub.of (by (try rw [hc24]); first | done | kernel_rfl))
                  refine JO.p 15 [(2, .bool (((t.N == 0) && (cmpS .eql t.S ([] : Str))) && ((t.L.len : Int) == 2)))] ?_
                  refine JO.end_ (JC.next (JC.ret ?_))
                  exact JK.retG1 (.bool (((t.N == 0) && (cmpS .eql t.S ([] : Str))) && ((t.L.len : Int) == 2))) rfl RVal.s ⟨((t.N == 0) && (cmpS .eql t.S ([] : Str))) && ((t.L.len : Int) == 2), by kernel_rfl, H⟩
                · have H := H.2 (hb)
                  refine JC.skip (JC.next (JC.seq (JC.region ?_)))
                  refine JO.p 1 [(2, .bool false)] ?_
                  refine JO.end_ (JC.next (JC.ret ?_))
                  exact JK.retG1 (.bool false) rfl RVal.s ⟨false, by kernel_rfl, H⟩

def F_slices_ContainsFunc_byte_byte.body (s : Sl) (f : Value) (h : Hp) (K : Bool → Hp → Prop) (X : Chain → Hp → Prop) : Prop :=
F_slices_IndexFunc_byte_byte.call s f h (fun (r1 : Int) (h2 : Hp) => K (decide (r1 ≥ 0)) h2) X
theorem F_slices_ContainsFunc_byte_byte.sound {s : Sl} {f : Value} {h : Hp} {K : Bool → Hp → Prop} {X : Chain → Hp → Prop} (H : F_slices_ContainsFunc_byte_byte.body s f h K X) : F_slices_ContainsFunc_byte_byte.call s f h K X := by
  unfold F_slices_ContainsFunc_byte_byte.body at H
  refine CallH.of Tryz.func126 rfl rfl fun w0 hw0 => ?_
  refine JC.seq (JC.region ?_)
  refine JO.p 1 [(4, .bool false)] ?_
  refine JO.end_ (JC.next (JC.seq (JC.region ?_)))
  refine JO.p 2 [(5, sl s), (6, f)] ?_
  refine JO.s 2 (OpOk.c (CallH.mono H ?_ fun _ _ hx => hx))
  rintro _ h2 ⟨r1, rfl, H⟩
  refine JO.p 5 [(4, .bool (decide (r1 ≥ 0)))] ?_
  refine JO.end_ (JC.next (JC.ret ?_))
  exact JK.retG1 (.bool (decide (r1 ≥ 0))) rfl RVal.s ⟨decide (r1 ≥ 0), by kernel_rfl, H⟩

def F_text_Plain_1.body (c : Int) (h : Hp) (K : Bool → Hp → Prop) (X : Chain → Hp → Prop) : Prop :=
F_text_letter.call c h (fun (r1 : Bool) (h2 : Hp) => K (!r1) h2) X
theorem F_text_Plain_1.sound {c : Int} {h : Hp} {K : Bool → Hp → Prop} {X : Chain → Hp → Prop} (H : F_text_Plain_1.body c h K X) : F_text_Plain_1.call c h K X := by
  unfold F_text_Plain_1.body at H
  refine CallH.of Tryz.func127 rfl rfl fun w0 hw0 => ?_
  refine JC.seq (JC.region ?_)
  refine JO.p 1 [(2, .bool false)] ?_
  refine JO.end_ (JC.next (JC.seq (JC.region ?_)))
  refine JO.p 1 [(3, .int .u8 c)] ?_
  refine JO.s 1 (OpOk.c (CallH.mono H ?_ fun _ _ hx => hx))
  rintro _ h2 ⟨r1, rfl, H⟩
  refine JO.p 4 [(2, .bool (!r1))] ?_
  refine JO.end_ (JC.next (JC.ret ?_))
  exact JK.retG1 (.bool (!r1)) rfl RVal.s ⟨!r1, by kernel_rfl, H⟩

def F_text_letter.body (c : Int) (h : Hp) (K : Bool → Hp → Prop) (X : Chain → Hp → Prop) : Prop :=
F_text_small.call c h (fun (r1 : Bool) (h2 : Hp) => K ((((r1 || ((decide (c ≥ 65)) && (decide (c ≤ 90)))) || ((decide (c ≥ 48)) && (decide (c ≤ 57)))) || (c == 95)) || (c == 64)) h2) X
theorem F_text_letter.sound {c : Int} {h : Hp} {K : Bool → Hp → Prop} {X : Chain → Hp → Prop} (H : F_text_letter.body c h K X) : F_text_letter.call c h K X := by
  unfold F_text_letter.body at H
  refine CallH.of Tryz.func128 rfl rfl fun w0 hw0 => ?_
  refine JC.seq (JC.region ?_)
  refine JO.p 1 [(2, .bool false)] ?_
  refine JO.end_ (JC.next (JC.seq (JC.region ?_)))
  refine JO.p 1 [(3, .int .u8 c)] ?_
  refine JO.s 1 (OpOk.c (CallH.mono H ?_ fun _ _ hx => hx))
  rintro _ h2 ⟨r1, rfl, H⟩
  refine JO.p 3 [(5, .bool r1)] ?_
  refine JO.jq 10 [(0, .int .u8 c), (12, .bool (r1 || ((decide (c ≥ 65)) && (decide (c ≤ 90)))))] ?_ ?_
  · refine JO.cs 5 r1 (fun hc3 => ?_) (fun hc3 => ?_)
    · refine JO.p 10 [(12, .bool true)] ?_
      refine JO.end_ ?_
      exact JK.invQ (Sub.of (by (try rw [hc3]); first | done | kernel_rfl))
    · refine JO.p 6 [(8, .bool (decide (c ≥ 65)))] ?_
      refine JO.jq 9 [(0, .int .u8 c), (5, .bool false), (11, .bool ((decide (c ≥ 65)) && (decide (c ≤ 90))))] ?_ ?_
      · refine JO.cs 8 (decide (c ≥ 65)) (fun hc4 => ?_) (fun hc4 => ?_)
        · refine JO.p 9 [(11, .bool (decide (c ≤ 90)))] ?_
          refine JO.end_ ?_
          exact JK.invQ (Sub.of (by (try rw [hc3]); (try rw [hc4]); first | done | kernel_rfl))
        · refine JO.p 9 [(11, .bool false)] ?_
          refine JO.end_ ?_
          exact JK.invQ (Sub.of (by (try rw [hc3]); (try rw [hc4]); first | done | kernel_rfl))
      refine JO.p 10 [(12, .bool ((decide (c ≥ 65)) && (decide (c ≤ 90))))] ?_
      refine JO.end_ ?_
      exact JK.invQ (Sub.of (by (try rw [hc3]); first | done | kernel_rfl))
  refine JO.p 11 [(13, .bool (r1 || ((decide (c ≥ 65)) && (decide (c ≤ 90)))))] ?_
  refine JO.jq 18 [(0, .int .u8 c), (20, .bool ((r1 || ((decide (c ≥ 65)) && (decide (c ≤ 90)))) || ((decide (c ≥ 48)) && (decide (c ≤ 57)))))] ?_ ?_
  · refine JO.cs 13 (r1 || ((decide (c ≥ 65)) && (decide (c ≤ 90)))) (fun hc5 => ?_) (fun hc5 => ?_)
    · refine JO.p 18 [(20, .bool true)] ?_
      refine JO.end_ ?_
      exact JK.invQ (Sub.of (by (try rw [hc5]); first | done | kernel_rfl))
    · refine JO.p 14 [(16, .bool (decide (c ≥ 48)))] ?_
      refine JO.jq 17 [(0, .int .u8 c), (13, .bool false), (19, .bool ((decide (c ≥ 48)) && (decide (c ≤ 57))))] ?_ ?_
      · refine JO.cs 16 (decide (c ≥ 48)) (fun hc6 => ?_) (fun hc6 => ?_)
        · refine JO.p 17 [(19, .bool (decide (c ≤ 57)))] ?_
          refine JO.end_ ?_
          exact JK.invQ (Sub.of (by (try rw [hc5]); (try rw [hc6]); first | done | kernel_rfl))
        · refine JO.p 17 [(19, .bool false)] ?_
          refine JO.end_ ?_
          exact JK.invQ (Sub.of (by (try rw [hc5]); (try rw [hc6]); first | done | kernel_rfl))
      refine JO.p 18 [(20, .bool ((decide (c ≥ 48)) && (decide (c ≤ 57))))] ?_
      refine JO.end_ ?_
      exact JK.invQ (Sub.of (by (try rw [hc5]); first | done | kernel_rfl))
  refine JO.p 19 [(21, .bool ((r1 || ((decide (c ≥ 65)) && (decide (c ≤ 90)))) || ((decide (c ≥ 48)) && (decide (c ≤ 57)))))] ?_
  refine JO.jq 22 [(0, .int .u8 c), (24, .bool (((r1 || ((decide (c ≥ 65)) && (decide (c ≤ 90)))) || ((decide (c ≥ 48)) && (decide (c ≤ 57)))) || (c == 95)))] ?_ ?_
  · refine JO.cs 21 ((r1 || ((decide (c ≥ 65)) && (decide (c ≤ 90)))) || ((decide (c ≥ 48)) && (decide (c ≤ 57)))) (fun hc7 => ?_) (fun hc7 => ?_)
    · refine JO.p 22 [(24, .bool true)] ?_
      refine JO.end_ ?_
      exact JK.invQ (Sub.of (by (try rw [hc7]); first | done | kernel_rfl))
    · refine JO.p 22 [(24, .bool (c == 95))] ?_
      refine JO.end_ ?_
      exact JK.invQ (Sub.of (by (try rw [hc7]); first | done | kernel_rfl))
  refine JO.p 23 [(25, .bool (((r1 || ((decide (c ≥ 65)) && (decide (c ≤ 90)))) || ((decide (c ≥ 48)) && (decide (c ≤ 57)))) || (c == 95)))] ?_
  refine JO.jq 26 [(28, .bool ((((r1 || ((decide (c ≥ 65)) && (decide (c ≤ 90)))) || ((decide (c ≥ 48)) && (decide (c ≤ 57)))) || (c == 95)) || (c == 64)))] ?_ ?_
  · refine JO.cs 25 (((r1 || ((decide (c ≥ 65)) && (decide (c ≤ 90)))) || ((decide (c ≥ 48)) && (decide (c ≤ 57)))) || (c == 95)) (fun hc8 => ?_) (fun hc8 => ?_)
    · refine JO.p 26 [(28, .bool true)] ?_
      refine JO.end_ ?_
      exact JK.invQ (Sub.of (by (try rw [hc8]); first | done | kernel_rfl))
    · refine JO.p 26 [(28, .bool (c == 64))] ?_
      refine JO.end_ ?_
      exact JK.invQ (Sub.of (by (try rw [hc8]); first | done | kernel_rfl))
  refine JO.p 27 [(2, .bool ((((r1 || ((decide (c ≥ 65)) && (decide (c ≤ 90)))) || ((decide (c ≥ 48)) && (decide (c ≤ 57)))) || (c == 95)) || (c == 64)))] ?_
  refine JO.end_ (JC.next (JC.ret ?_))
  exact JK.retG1 (.bool ((((r1 || ((decide (c ≥ 65)) && (decide (c ≤ 90)))) || ((decide (c ≥ 48)) && (decide (c ≤ 57)))) || (c == 95)) || (c == 64))) rfl RVal.s ⟨(((r1 || ((decide (c ≥ 65)) && (decide (c ≤ 90)))) || ((decide (c ≥ 48)) && (decide (c ≤ 57)))) || (c == 95)) || (c == 64), by kernel_rfl, H⟩

def F_slices_Backward_api_Term_api_Term_1.body (yield : Value) (free0 : Addr) (h : Hp) (K : Hp → Prop) (X : Chain → Hp → Prop) : Prop :=
LoadW h free0 cL (fun (x1 : Sl) => ∀ (x2 : Int), x2 = IntKind.i64.wrap ((x1.len : Int) - 1) → LoopW (fun (s3 : Int) h4 next5 =>
(s3 ≥ 0 → LoadW h4 free0 cL (fun (x7 : Sl) => IdxW x7 s3 (fun (b9 : Addr) => LoadW h4 (b9.add (s3.toNat * 4)) V_api_Term.cells (fun (x10 : V_api_Term) => CallV Tryz.prog yield [.int .i64 s3, .agg #[.int .i64 x10.Kind, .int .i64 x10.N, .string (ba x10.S), sl x10.L]] h4 (fun v13 h12 => ∃ (r11 : Bool), v13 = .bool r11 ∧ ((!r11) = true → K h12) ∧
((!r11) = false → ∀ (x14 : Int), x14 = IntKind.i64.wrap (s3 - 1) → next5 x14 h12)) X)))) ∧
(¬ (s3 ≥ 0) → K h4)) x2 h)
theorem F_slices_Backward_api_Term_api_Term_1.sound {yield : Value} {free0 : Addr} {h : Hp} {K : Hp → Prop} {X : Chain → Hp → Prop} (H : F_slices_Backward_api_Term_api_Term_1.body yield free0 h K X) : F_slices_Backward_api_Term_api_Term_1.call yield free0 h K X := by
  unfold F_slices_Backward_api_Term_api_Term_1.body at H
  refine CallH.of Tryz.func129 rfl rfl fun w0 hw0 => ?_
  refine JC.seq (JC.region ?_)
  obtain ⟨x1, lx1, H⟩ := H
  refine JO.y 0 (Yld.le lx1) ?_
  refine JO.p 3 [(6, .int .i64 (IntKind.i64.wrap ((x1.len : Int) - 1)))] ?_
  let x2 : Int := IntKind.i64.wrap ((x1.len : Int) - 1)
  have H := H x2 rfl
  refine JO.p 4 [(3, .int .i64 x2)] ?_
  refine JO.end_ (JC.next (JC.block ?_))
  obtain ⟨I6, μI6, hI6, H⟩ := H
  refine JC.loop (S := Int) (fun s3 => [(0, yield), (1, .pointer (some free0)), (3, .int .i64 s3)]) (fun s3 h' => KeepB [] h' ∧ I6 s3 h') μI6 x2 Sub.kk ⟨KeepB.nil _, hI6⟩ ?_
  rintro s3 h4 ⟨hB, hI⟩
  have H := H s3 h4 hI
  refine JC.seq (JC.seq (JC.region ?_))
  refine JO.p 2 [(8, .bool (decide (s3 ≥ 0)))] ?_
  refine JO.end_ (JC.next ?_)
  refine JC.cd (decide (s3 ≥ 0)) (fun hb => ?_) (fun hb => ?_)
  · have H := H.1 (of_decide_eq_true hb)
    refine JC.skip (JC.next (JC.seq (JC.block (JC.seq (JC.region ?_)))))
    refine JO.p 2 [(11, yield), (12, .int .i64 s3)] ?_
    obtain ⟨x7, lx7, H⟩ := H
    refine JO.y 2 (Yld.le lx7) ?_
    refine JO.p 4 [(14, .int .i64 s3)] ?_
    obtain ⟨qb9, qb9', b9, eb9, H⟩ := H
    refine JO.y 4 (Yld.ia 24 4 .i64 x7 b9 s3 ⟨qb9, qb9'⟩ eb9) ?_
    obtain ⟨x10, lx10, H⟩ := H
    refine JO.y 5 (Yld.lne lx10) ?_
    refine JO.s 6 (OpOk.cv yield [.int .i64 s3, .agg #[.int .i64 x10.Kind, .int .i64 x10.N, .string (ba x10.S), sl x10.L]] (CallV.mono H ?_ (fun _ _ hx => hx)))
    rintro _ h12 ⟨r11, rfl, H⟩
    refine JO.p 8 [(18, .bool (!r11))] ?_
    refine JO.end_ (JC.next ?_)
    refine JC.cd (!r11) (fun hb => ?_) (fun hb => ?_)
    · have H := H.1 (hb)
      refine JC.ret ?_
      exact JK.ret0 rfl ⟨by kernel_rfl, H⟩
    · have H := H.2 (hb)
      refine JC.skip (JC.next (JC.region ?_))
      refine JO.p 2 [(10, .int .i64 (IntKind.i64.wrap (s3 - 1)))] ?_
      let x14 : Int := IntKind.i64.wrap (s3 - 1)
      have H := H x14 rfl
      refine JO.p 3 [(3, .int .i64 x14)] ?_
      refine JO.end_ ?_
      exact JK.inv x14 Sub.kk ⟨⟨(KeepB.nil _), H.1⟩, H.2⟩
  · have H := H.2 (of_decide_eq_false hb)
    refine JC.exit rfl ?_
    exact JK.ret0 rfl ⟨by kernel_rfl, H⟩

def F_tenureref05_word.body (s : Str) (h : Hp) (K : Bool → Hp → Prop) (X : Chain → Hp → Prop) : Prop :=
AllocW h 9 [.string (ba ([97, 102, 116, 101, 114] : Str)), .string (ba ([97, 110, 100] : Str)), .string (ba ([97, 110, 100, 97, 108, 115, 111] : Str)), .string (ba ([98, 101, 103, 105, 110] : Str)), .string (ba ([99, 97, 115, 101] : Str)), .string (ba ([99, 97, 116, 99, 104] : Str)), .string (ba ([100, 105, 118] : Str)), .string (ba ([101, 110, 100] : Str)), .string (ba ([102, 117, 110] : Str)), .string (ba ([110, 111, 116] : Str)), .string (ba ([111, 102] : Str)), .string (ba ([111, 114] : Str)), .string (ba ([111, 114, 101, 108, 115, 101] : Str)), .string (ba ([114, 101, 99, 101, 105, 118, 101] : Str)), .string (ba ([114, 101, 109] : Str)), .string (ba ([116, 114, 121] : Str)), .string (ba ([119, 104, 101, 110] : Str))] (fun (p1 : Nat) (h2 : Hp) => LoopW (fun (s3 : Int) h4 next5 =>
(s3 < ((⟨some ⟨p1, 0, none⟩, 17, 17⟩ : Sl).len : Int) → IdxW (⟨some ⟨p1, 0, none⟩, 17, 17⟩ : Sl) s3 (fun (b8 : Addr) => LoadW h4 (b8.add (s3.toNat * 1)) cS (fun (x9 : Str) => ((cmpS .eql x9 s) = true → K true h4) ∧
((cmpS .eql x9 s) = false → ∀ (x10 : Int), x10 = IntKind.i64.wrap (s3 + 1) → next5 x10 h4)))) ∧
(¬ (s3 < ((⟨some ⟨p1, 0, none⟩, 17, 17⟩ : Sl).len : Int)) → K false h4)) 0 h2)
theorem F_tenureref05_word.sound {s : Str} {h : Hp} {K : Bool → Hp → Prop} {X : Chain → Hp → Prop} (H : F_tenureref05_word.body s h K X) : F_tenureref05_word.call s h K X := by
  unfold F_tenureref05_word.body at H
  refine CallH.of Tryz.func134 rfl rfl fun w0 hw0 => ?_
  refine JC.seq (JC.region ?_)
  refine JO.p 1 [(2, .bool false)] ?_
  refine JO.end_ (JC.next (JC.seq (JC.region ?_)))
  refine JO.s 0 (OpOk.bs 17 [.string (ba ([97, 102, 116, 101, 114] : Str)), .string (ba ([97, 110, 100] : Str)), .string (ba ([97, 110, 100, 97, 108, 115, 111] : Str)), .string (ba ([98, 101, 103, 105, 110] : Str)), .string (ba ([99, 97, 115, 101] : Str)), .string (ba ([99, 97, 116, 99, 104] : Str)), .string (ba ([100, 105, 118] : Str)), .string (ba ([101, 110, 100] : Str)), .string (ba ([102, 117, 110] : Str)), .string (ba ([110, 111, 116] : Str)), .string (ba ([111, 102] : Str)), .string (ba ([111, 114] : Str)), .string (ba ([111, 114, 101, 108, 115, 101] : Str)), .string (ba ([114, 101, 99, 101, 105, 118, 101] : Str)), .string (ba ([114, 101, 109] : Str)), .string (ba ([116, 114, 121] : Str)), .string (ba ([119, 104, 101, 110] : Str))] 9 ?_)
  intro p1 h2 hp hh
  have H := H p1 h2 hp hh
  refine JO.p 2 [(3, sl (⟨some ⟨p1, 0, none⟩, 17, 17⟩ : Sl))] ?_
  refine JO.end_ (JC.next (JC.seq (JC.seq (JC.region ?_))))
  refine JO.p 1 [(4, .int .i64 0)] ?_
  refine JO.end_ (JC.next (JC.block ?_))
  obtain ⟨I6, μI6, hI6, H⟩ := H
  refine JC.loop (S := Int) (fun s3 => [(0, .string (ba s)), (3, sl (⟨some ⟨p1, 0, none⟩, 17, 17⟩ : Sl)), (4, .int .i64 s3)]) (fun s3 h' => KeepB [] h' ∧ I6 s3 h') μI6 0 Sub.kk ⟨KeepB.nil _, hI6⟩ ?_
  rintro s3 h4 ⟨hB, hI⟩
  have H := H s3 h4 hI
  refine JC.seq (JC.seq (JC.region ?_))
  refine JO.p 4 [(9, .bool (decide (s3 < ((⟨some ⟨p1, 0, none⟩, 17, 17⟩ : Sl).len : Int))))] ?_
  refine JO.end_ (JC.next ?_)
  refine JC.cd (decide (s3 < ((⟨some ⟨p1, 0, none⟩, 17, 17⟩ : Sl).len : Int))) (fun hb => ?_) (fun hb => ?_)
  · have H := H.1 (of_decide_eq_true hb)
    refine JC.skip (JC.next (JC.seq (JC.block (JC.seq (JC.region ?_)))))
    refine JO.p 2 [(12, sl (⟨some ⟨p1, 0, none⟩, 17, 17⟩ : Sl)), (13, .int .i64 s3)] ?_
    obtain ⟨qb8, qb8', b8, eb8, H⟩ := H
    refine JO.y 2 (Yld.ia 9 1 .i64 (⟨some ⟨p1, 0, none⟩, 17, 17⟩ : Sl) b8 s3 ⟨qb8, qb8'⟩ eb8) ?_
    obtain ⟨x9, lx9, H⟩ := H
    refine JO.y 3 (Yld.le lx9) ?_
    refine JO.p 5 [(16, .string (ba s))] ?_
    refine JO.y 5 (Yld.cp .eql x9 s) ?_
    refine JO.end_ (JC.next ?_)
    refine JC.cd (cmpS .eql x9 s) (fun hb => ?_) (fun hb => ?_)
    · have H := H.1 (hb)
      refine JC.seq (JC.region ?_)
      refine JO.p 1 [(2, .bool true)] ?_
      refine JO.end_ (JC.next (JC.ret ?_))
      exact JK.retG1 (.bool true) rfl RVal.s ⟨true, by kernel_rfl, H⟩
    · have H := H.2 (hb)
      refine JC.skip (JC.next (JC.region ?_))
      refine JO.p 2 [(11, .int .i64 (IntKind.i64.wrap (s3 + 1)))] ?_
      let x10 : Int := IntKind.i64.wrap (s3 + 1)
      have H := H x10 rfl
      refine JO.p 3 [(4, .int .i64 x10)] ?_
      refine JO.end_ ?_
      exact JK.inv x10 Sub.kk ⟨⟨(KeepB.nil _), H.1⟩, H.2⟩
  · have H := H.2 (of_decide_eq_false hb)
    refine JC.exit rfl ?_
    refine JC.next (JC.seq (JC.region ?_))
    refine JO.p 1 [(2, .bool false)] ?_
    refine JO.end_ (JC.next (JC.ret ?_))
    exact JK.retG1 (.bool false) rfl RVal.s ⟨false, by kernel_rfl, H⟩

def F_text_cursor_must.body (c : Option Addr) (s : Str) (h : Hp) (K : Hp → Prop) (X : Chain → Hp → Prop) : Prop :=
F_text_cursor_is.call c s h (fun (r1 : Bool) (h2 : Hp) => ((!r1) = true → X [{ v := ifc (some (104, Value.agg #[])), recovered := false }] h2) ∧
((!r1) = false → K h2)) X
theorem F_text_cursor_must.sound {c : Option Addr} {s : Str} {h : Hp} {K : Hp → Prop} {X : Chain → Hp → Prop} (H : F_text_cursor_must.body c s h K X) : F_text_cursor_must.call c s h K X := by
  unfold F_text_cursor_must.body at H
  refine CallH.of Tryz.func138 rfl rfl fun w0 hw0 => ?_
  refine JC.seq (JC.region ?_)
  refine JO.p 2 [(4, .pointer c), (5, .string (ba s))] ?_
  refine JO.s 2 (OpOk.c (CallH.mono H ?_ fun _ _ hx => hx))
  rintro _ h2 ⟨r1, rfl, H⟩
  refine JO.p 4 [(7, .bool (!r1))] ?_
  refine JO.end_ (JC.next ?_)
  refine JC.cd (!r1) (fun hb => ?_) (fun hb => ?_)
  · have H := H.1 (hb)
    refine JC.region ?_
    refine JO.p 2 [(9, ifc (some (104, Value.agg #[])))] ?_
    exact JO.s 2 (OpOk.pn H)
  · have H := H.2 (hb)
    refine JC.skip ?_
    exact JK.ret0 rfl ⟨by kernel_rfl, H⟩

def F_text_cursor_byteOf.body (c : Option Addr) (h : Hp) (K : Int → Bool → Hp → Prop) (X : Chain → Hp → Prop) : Prop :=
NilW c (fun (a1 : Addr) => LoadW h (a1.add 1) (cI .i64) (fun (x2 : Int) => LoadW h (a1.add 0) cS (fun (x3 : Str) => (x2 ≥ (x3.length : Int) → X [{ v := ifc (some (104, Value.agg #[])), recovered := false }] h) ∧
(¬ (x2 ≥ (x3.length : Int)) → (0 ≤ x2 ∧ x2 < x3.length) ∧ ∀ (x5 : Int), x5 = bt x3 x2 → StoreW h (a1.add 1) [.int .i64 (IntKind.i64.wrap (x2 + 1))] (fun (h6 : Hp) => ((x5 == 39) = true → K 0 false h6) ∧
((x5 == 39) = false → ((x5 != 92) = true → K x5 true h6) ∧
((x5 != 92) = false → F_text_cursor_is.call c ([39] : Str) h6 (fun (r7 : Bool) (h8 : Hp) => (r7 = true → K 39 true h8) ∧
(r7 = false → F_text_cursor_is.call c ([92] : Str) h8 (fun (r9 : Bool) (h10 : Hp) => (r9 = true → K 92 true h10) ∧
(r9 = false → F_text_cursor_must.call c ([120] : Str) h10 (fun (h11 : Hp) => LoadW h11 (a1.add 1) (cI .i64) (fun (x12 : Int) => LoadW h11 (a1.add 0) cS (fun (x13 : Str) => ((IntKind.i64.wrap (x12 + 2)) > (x13.length : Int) → X [{ v := ifc (some (104, Value.agg #[])), recovered := false }] h11) ∧
(¬ ((IntKind.i64.wrap (x12 + 2)) > (x13.length : Int)) → (0 ≤ x12 ∧ x12 < x13.length) ∧ (0 ≤ IntKind.i64.wrap (x12 + 1) ∧ IntKind.i64.wrap (x12 + 1) < x13.length) ∧ F_strings_IndexByte.call ([48, 49, 50, 51, 52, 53, 54, 55, 56, 57, 97, 98, 99, 100, 101, 102] : Str) (bt x13 x12) h11 (fun (r16 : Int) (h17 : Hp) => hcells h17 (a1.add 1) [.int .i64 x12] ∧ hcells h17 (a1.add 0) [.string (ba x13)] ∧ F_strings_IndexByte.call ([48, 49, 50, 51, 52, 53, 54, 55, 56, 57, 97, 98, 99, 100, 101, 102] : Str) (bt x13 (IntKind.i64.wrap (x12 + 1))) h17 (fun (r20 : Int) (h21 : Hp) => (((decide (r16 < 0)) || (decide (r20 < 0))) = true → X [{ v := ifc (some (104, Value.agg #[])), recovered := false }] h21) ∧
(((decide (r16 < 0)) || (decide (r20 < 0))) = false → LoadW h21 (a1.add 1) (cI .i64) (fun (x23 : Int) => StoreW h21 (a1.add 1) [.int .i64 (IntKind.i64.wrap (x23 + 2))] (fun (h24 : Hp) => ∀ (x25 : Int), x25 = IntKind.u8.wrap (bitOr .i64 (IntKind.i64.wrap (r16 * 2 ^ 4)) r20) → K x25 true h24)))) X) X)))) X)) X)) X)))))))
theorem F_text_cursor_byteOf.sound {c : Option Addr} {h : Hp} {K : Int → Bool → Hp → Prop} {X : Chain → Hp → Prop} (H : F_text_cursor_byteOf.body c h K X) : F_text_cursor_byteOf.call c h K X := by
  unfold F_text_cursor_byteOf.body at H
  refine CallH.of Tryz.func139 rfl rfl fun w0 hw0 => ?_
  refine JC.seq (JC.region ?_)
  refine JO.p 2 [(2, .int .u8 0), (3, .bool false)] ?_
  refine JO.end_ (JC.next (JC.seq (JC.seq ?_)))
  refine JC.rd 10 ?_
  refine JD.rr 0 (.pointer c) ?_
  obtain ⟨a1, na1, H⟩ := H
  refine JD.t 1 (Yld.np na1) ?_
  refine JD.rr 2 (.pointer (some (a1.add 1))) ?_
  obtain ⟨x2, lx2, H⟩ := H
  refine JD.hold (HoldS.cells 3 lx2) ?_
  refine JD.t 3 Yld.lh ?_
  refine JD.rr 4 (.pointer c) ?_
  refine JD.t 5 (Yld.np na1) ?_
  refine JD.rr 6 (.pointer (some (a1.add 0))) ?_
  obtain ⟨x3, lx3, H⟩ := H
  refine JD.hold (HoldS.cells 7 lx3) ?_
  refine JD.t 7 Yld.lh ?_
  refine JD.rr 8 (.int .i64 (x3.length : Int)) ?_
  refine JD.rr 9 (.bool (decide (x2 ≥ (x3.length : Int)))) ?_
  refine JD.e ?_
  refine JC.next ?_
  refine JC.cd (decide (x2 ≥ (x3.length : Int))) (fun hb => ?_) (fun hb => ?_)
  · have H := H.1 (of_decide_eq_true hb)
    refine JC.region ?_
    refine JO.p 2 [(18, ifc (some (104, Value.agg #[])))] ?_
    exact JO.s 2 (OpOk.pn H)
  · have H := H.2 (of_decide_eq_false hb)
    refine JC.skip (JC.next (JC.seq ?_))
    refine JC.rd 10 ?_
    refine JD.rr 0 (.pointer c) ?_
    refine JD.t 1 (Yld.np na1) ?_
    refine JD.rr 2 (.pointer (some (a1.add 0))) ?_
    refine JD.hold (HoldS.cells 3 lx3) ?_
    refine JD.t 3 Yld.lh ?_
    refine JD.rr 4 (.pointer c) ?_
    refine JD.t 5 (Yld.np na1) ?_
    refine JD.rr 6 (.pointer (some (a1.add 1))) ?_
    refine JD.hold (HoldS.cells 7 lx2) ?_
    refine JD.t 7 Yld.lh ?_
    obtain ⟨q4, H⟩ := H
    refine JD.t 8 (Yld.ix .i64 x3 x2 q4) ?_
    let x5 : Int := bt x3 x2
    have H := H x5 rfl
    refine JD.rr 9 (.int .u8 x5) ?_
    refine JD.e ?_
    refine JC.next (JC.seq (JC.region ?_))
    refine JO.p 1 [(28, .pointer c)] ?_
    refine JO.y 1 (Yld.np na1) ?_
    refine JO.p 3 [(30, .pointer (some (a1.add 1)))] ?_
    refine JO.y 3 (Yld.le lx2) ?_
    refine JO.p 5 [(32, .int .i64 (IntKind.i64.wrap (x2 + 1)))] ?_
    refine JO.y 5 (Yld.np na1) ?_
    refine JO.p 7 [(34, .pointer (some (a1.add 1)))] ?_
    obtain ⟨hs, H⟩ := H
    refine JO.s 7 (OpOk.st [.int .i64 (IntKind.i64.wrap (x2 + 1))] hs ?_)
    intro h6 hh
    have H := H h6 hh
    refine JO.end_ (JC.next (JC.seq (JC.block (JC.seq (JC.region ?_)))))
    refine JO.p 3 [(35, .bool (x5 == 39))] ?_
    refine JO.end_ (JC.next ?_)
    refine JC.cd (x5 == 39) (fun hb => ?_) (fun hb => ?_)
    · have H := H.1 (hb)
      refine JC.seq (JC.region ?_)
      refine JO.p 2 [(2, .int .u8 0), (3, .bool false)] ?_
      refine JO.end_ (JC.next (JC.ret ?_))
      exact JK.retG2 (.int .u8 0) (.bool false) rfl RVal.s RVal.s ⟨0, false, by kernel_rfl, H⟩
    · have H := H.2 (hb)
      refine JC.seq (JC.region ?_)
      refine JO.p 3 [(38, .bool (x5 != 92))] ?_
      refine JO.end_ (JC.next ?_)
      refine JC.cd (x5 != 92) (fun hb => ?_) (fun hb => ?_)
      · have H := H.1 (hb)
        refine JC.seq (JC.region ?_)
        refine JO.p 3 [(2, .int .u8 x5), (3, .bool true)] ?_
        refine JO.end_ (JC.next (JC.ret ?_))
        exact JK.retG2 (.int .u8 x5) (.bool true) rfl RVal.s RVal.s ⟨x5, true, by kernel_rfl, H⟩
      · have H := H.2 (hb)
        refine JC.seq (JC.region ?_)
        refine JO.p 1 [(43, .pointer c)] ?_
        refine JO.s 1 (OpOk.c (CallH.mono H ?_ fun _ _ hx => hx))
        rintro _ h8 ⟨r7, rfl, H⟩
        refine JO.p 3 [(42, .bool r7)] ?_
        refine JO.end_ (JC.next ?_)
        refine JC.cd r7 (fun hb => ?_) (fun hb => ?_)
        · have H := H.1 (hb)
          refine JC.seq (JC.region ?_)
          refine JO.p 2 [(2, .int .u8 39), (3, .bool true)] ?_
          refine JO.end_ (JC.next (JC.ret ?_))
          exact JK.retG2 (.int .u8 39) (.bool true) rfl RVal.s RVal.s ⟨39, true, by kernel_rfl, H⟩
        · have H := H.2 (hb)
          refine JC.seq (JC.region ?_)
          refine JO.p 1 [(46, .pointer c)] ?_
          refine JO.s 1 (OpOk.c (CallH.mono H ?_ fun _ _ hx => hx))
          rintro _ h10 ⟨r9, rfl, H⟩
          refine JO.p 3 [(45, .bool r9)] ?_
          refine JO.end_ (JC.next ?_)
          refine JC.cd r9 (fun hb => ?_) (fun hb => ?_)
          · have H := H.1 (hb)
            refine JC.seq (JC.region ?_)
            refine JO.p 2 [(2, .int .u8 92), (3, .bool true)] ?_
            refine JO.end_ (JC.next (JC.ret ?_))
            exact JK.retG2 (.int .u8 92) (.bool true) rfl RVal.s RVal.s ⟨92, true, by kernel_rfl, H⟩
          · have H := H.2 (hb)
            refine JC.skip (JC.next (JC.seq (JC.region ?_)))
            refine JO.p 1 [(48, .pointer c)] ?_
            refine JO.s 1 (OpOk.c (CallH.mono H ?_ fun _ _ hx => hx))
            rintro _ h11 ⟨rfl, H⟩
            refine JO.end_ (JC.next (JC.seq (JC.seq ?_)))
            refine JC.rd 11 ?_
            refine JD.rr 0 (.pointer c) ?_
            refine JD.t 1 (Yld.np na1) ?_
            refine JD.rr 2 (.pointer (some (a1.add 1))) ?_
            obtain ⟨x12, lx12, H⟩ := H
            refine JD.hold (HoldS.cells 3 lx12) ?_
            refine JD.t 3 Yld.lh ?_
            refine JD.rr 4 (.int .i64 (IntKind.i64.wrap (x12 + 2))) ?_
            refine JD.rr 5 (.pointer c) ?_
            refine JD.t 6 (Yld.np na1) ?_
            refine JD.rr 7 (.pointer (some (a1.add 0))) ?_
            obtain ⟨x13, lx13, H⟩ := H
            refine JD.hold (HoldS.cells 8 lx13) ?_
            refine JD.t 8 Yld.lh ?_
            refine JD.rr 9 (.int .i64 (x13.length : Int)) ?_
            refine JD.rr 10 (.bool (decide ((IntKind.i64.wrap (x12 + 2)) > (x13.length : Int)))) ?_
            refine JD.e ?_
            refine JC.next ?_
            refine JC.cd (decide ((IntKind.i64.wrap (x12 + 2)) > (x13.length : Int))) (fun hb => ?_) (fun hb => ?_)
            · have H := H.1 (of_decide_eq_true hb)
              refine JC.region ?_
              refine JO.p 2 [(62, ifc (some (104, Value.agg #[])))] ?_
              exact JO.s 2 (OpOk.pn H)
            · have H := H.2 (of_decide_eq_false hb)
              refine JC.skip (JC.next (JC.seq ?_))
              refine JC.rd 23 ?_
              refine JD.rr 0 (.pointer c) ?_
              refine JD.t 1 (Yld.np na1) ?_
              refine JD.rr 2 (.pointer (some (a1.add 0))) ?_
              refine JD.hold (HoldS.cells 3 lx13) ?_
              refine JD.t 3 Yld.lh ?_
              refine JD.rr 4 (.pointer c) ?_
              refine JD.t 5 (Yld.np na1) ?_
              refine JD.rr 6 (.pointer (some (a1.add 1))) ?_
              refine JD.hold (HoldS.cells 7 lx12) ?_
              refine JD.t 7 Yld.lh ?_
              obtain ⟨q14, H⟩ := H
              refine JD.t 8 (Yld.ix .i64 x13 x12 q14) ?_
              refine JD.rr 10 (.pointer c) ?_
              refine JD.t 11 (Yld.np na1) ?_
              refine JD.rr 12 (.pointer (some (a1.add 0))) ?_
              refine JD.hold (HoldS.cells 13 lx13) ?_
              refine JD.t 13 Yld.lh ?_
              refine JD.rr 14 (.pointer c) ?_
              refine JD.t 15 (Yld.np na1) ?_
              refine JD.rr 16 (.pointer (some (a1.add 1))) ?_
              refine JD.hold (HoldS.cells 17 lx12) ?_
              refine JD.t 17 Yld.lh ?_
              refine JD.rr 18 (.int .i64 (IntKind.i64.wrap (x12 + 1))) ?_
              obtain ⟨q15, H⟩ := H
              refine JD.t 19 (Yld.ix .i64 x13 (IntKind.i64.wrap (x12 + 1)) q15) ?_
              refine JD.o 9 (OpOk.c (CallH.mono H ?_ fun _ _ hx => hx))
              rintro _ h17 ⟨r16, rfl, hL0, hL1, H⟩
              have l18 := hL0
              have l19 := hL1
              refine ⟨(HoldS.cells 17 l18 (HoldS.cells 13 l19 (HoldS.drop 7 9 (HoldS.drop 3 9 HoldS.nil)))), ?_⟩
              refine JD.o 20 (OpOk.c (CallH.mono H ?_ fun _ _ hx => hx))
              rintro _ h21 ⟨r20, rfl, H⟩
              refine ⟨(HoldS.drop 17 20 (HoldS.drop 13 20 (HoldS.drop 7 9 (HoldS.drop 3 9 HoldS.nil)))), ?_⟩
              refine JD.rr 21 (.int .i64 r16) ?_
              refine JD.rr 22 (.int .i64 r20) ?_
              refine JD.e ?_
              refine JC.next (JC.seq (JC.seq (JC.region ?_)))
              refine JO.p 3 [(86, .bool (decide (r16 < 0)))] ?_
              refine JO.jq 6 [(0, .pointer c), (5, .int .i64 r16), (6, .int .i64 r20), (89, .bool ((decide (r16 < 0)) || (decide (r20 < 0))))] ?_ ?_
              · refine JO.cs 86 (decide (r16 < 0)) (fun hc22 => ?_) (fun hc22 => ?_)
                · refine JO.p 6 [(89, .bool true)] ?_
                  refine JO.end_ ?_
                  exact JK.invQ (Sub.of (by (try rw [hc22]); first | done | kernel_rfl))
                · refine JO.p 6 [(89, .bool (decide (r20 < 0)))] ?_
                  refine JO.end_ ?_
                  exact JK.invQ (Sub.of (by (try rw [hc22]); first | done | kernel_rfl))
              refine JO.end_ (JC.next ?_)
              refine JC.cd ((decide (r16 < 0)) || (decide (r20 < 0))) (fun hb => ?_) (fun hb => ?_)
              · have H := H.1 (hb)
                refine JC.region ?_
                refine JO.p 2 [(91, ifc (some (104, Value.agg #[])))] ?_
                exact JO.s 2 (OpOk.pn H)
              · have H := H.2 (hb)
                refine JC.skip (JC.next (JC.seq (JC.region ?_)))
                refine JO.p 1 [(92, .pointer c)] ?_
                refine JO.y 1 (Yld.np na1) ?_
                refine JO.p 3 [(94, .pointer (some (a1.add 1)))] ?_
                obtain ⟨x23, lx23, H⟩ := H
                refine JO.y 3 (Yld.le lx23) ?_
                refine JO.p 5 [(96, .int .i64 (IntKind.i64.wrap (x23 + 2)))] ?_
                refine JO.y 5 (Yld.np na1) ?_
                refine JO.p 7 [(98, .pointer (some (a1.add 1)))] ?_
                obtain ⟨hs, H⟩ := H
                refine JO.s 7 (OpOk.st [.int .i64 (IntKind.i64.wrap (x23 + 2))] hs ?_)
                intro h24 hh
                have H := H h24 hh
                refine JO.end_ (JC.next (JC.seq (JC.region ?_)))
                refine JO.p 5 [(103, .int .u8 (IntKind.u8.wrap (bitOr .i64 (IntKind.i64.wrap (r16 * 2 ^ 4)) r20)))] ?_
                let x25 : Int := IntKind.u8.wrap (bitOr .i64 (IntKind.i64.wrap (r16 * 2 ^ 4)) r20)
                have H := H x25 rfl
                refine JO.p 7 [(2, .int .u8 x25), (3, .bool true)] ?_
                refine JO.end_ (JC.next (JC.ret ?_))
                exact JK.retG2 (.int .u8 x25) (.bool true) rfl RVal.s RVal.s ⟨x25, true, by kernel_rfl, H⟩

def F_tenureref02_numbered.body (n : Int) (h : Hp) (K : Bool → Hp → Prop) (X : Chain → Hp → Prop) : Prop :=
K ((decide (n ≥ 0)) && (decide (n ≤ 1073741824))) h
theorem F_tenureref02_numbered.sound {n : Int} {h : Hp} {K : Bool → Hp → Prop} {X : Chain → Hp → Prop} (H : F_tenureref02_numbered.body n h K X) : F_tenureref02_numbered.call n h K X := by
  unfold F_tenureref02_numbered.body at H
  refine CallH.of Tryz.func143 rfl rfl fun w0 hw0 => ?_
  refine JC.seq (JC.region ?_)
  refine JO.p 1 [(2, .bool false)] ?_
  refine JO.end_ (JC.next (JC.seq (JC.region ?_)))
  refine JO.p 3 [(5, .bool (decide (n ≥ 0)))] ?_
  refine JO.jq 6 [(8, .bool ((decide (n ≥ 0)) && (decide (n ≤ 1073741824))))] ?_ ?_
  · refine JO.cs 5 (decide (n ≥ 0)) (fun hc1 => ?_) (fun hc1 => ?_)
    · refine JO.p 6 [(8, .bool (decide (n ≤ 1073741824)))] ?_
      refine JO.end_ ?_
      exact JK.invQ (Sub.of (by (try rw [hc1]); first | done | kernel_rfl))
    · refine JO.p 6 [(8, .bool false)] ?_
      refine JO.end_ ?_
      exact JK.invQ (Sub.of (by (try rw [hc1]); first | done | kernel_rfl))
  refine JO.p 7 [(2, .bool ((decide (n ≥ 0)) && (decide (n ≤ 1073741824))))] ?_
  refine JO.end_ (JC.next (JC.ret ?_))
  exact JK.retG1 (.bool ((decide (n ≥ 0)) && (decide (n ≤ 1073741824)))) rfl RVal.s ⟨(decide (n ≥ 0)) && (decide (n ≤ 1073741824)), by kernel_rfl, H⟩

def F_slices_IndexFunc_byte_byte.body (s : Sl) (f : Value) (h : Hp) (K : Int → Hp → Prop) (X : Chain → Hp → Prop) : Prop :=
LoopW (fun (s1 : Int) h2 next3 =>
(s1 < (s.len : Int) → IdxW s s1 (fun (b6 : Addr) => LoadW h2 (b6.add (s1.toNat * 1)) (cI .u8) (fun (x7 : Int) => CallV Tryz.prog f [.int .u8 x7] h2 (fun v10 h9 => ∃ (r8 : Bool), v10 = .bool r8 ∧ (r8 = true → K s1 h9) ∧
(r8 = false → next3 (IntKind.i64.wrap (s1 + 1)) h9)) X))) ∧
(¬ (s1 < (s.len : Int)) → K (-1) h2)) 0 h
theorem F_slices_IndexFunc_byte_byte.sound {s : Sl} {f : Value} {h : Hp} {K : Int → Hp → Prop} {X : Chain → Hp → Prop} (H : F_slices_IndexFunc_byte_byte.body s f h K X) : F_slices_IndexFunc_byte_byte.call s f h K X := by
  unfold F_slices_IndexFunc_byte_byte.body at H
  refine CallH.of Tryz.func144 rfl rfl fun w0 hw0 => ?_
  refine JC.seq (JC.region ?_)
  refine JO.p 1 [(4, .int .i64 0)] ?_
  refine JO.end_ (JC.next (JC.seq (JC.seq (JC.region ?_))))
  refine JO.p 3 [(7, .int .i64 (s.len : Int)), (8, .int .i64 0)] ?_
  refine JO.end_ (JC.next (JC.block ?_))
  obtain ⟨I4, μI4, hI4, H⟩ := H
  refine JC.loop (S := Int) (fun s1 => [(0, sl s), (1, f), (7, .int .i64 (s.len : Int)), (8, .int .i64 s1)]) (fun s1 h' => KeepB [] h' ∧ I4 s1 h') μI4 0 Sub.kk ⟨KeepB.nil _, hI4⟩ ?_
  rintro s1 h2 ⟨hB, hI⟩
  have H := H s1 h2 hI
  refine JC.seq (JC.region ?_)
  refine JO.p 1 [(9, .bool (decide (s1 < (s.len : Int))))] ?_
  refine JO.end_ (JC.next (JC.seq ?_))
  refine JC.cd (decide (s1 < (s.len : Int))) (fun hb => ?_) (fun hb => ?_)
  · have H := H.1 (of_decide_eq_true hb)
    refine JC.skip (JC.next (JC.seq (JC.block (JC.seq (JC.region ?_)))))
    refine JO.p 2 [(5, .int .i64 s1)] ?_
    refine JO.end_ (JC.next (JC.seq (JC.region ?_)))
    refine JO.p 3 [(11, f), (12, sl s), (13, .int .i64 s1)] ?_
    obtain ⟨qb6, qb6', b6, eb6, H⟩ := H
    refine JO.y 3 (Yld.ia 5 1 .i64 s b6 s1 ⟨qb6, qb6'⟩ eb6) ?_
    obtain ⟨x7, lx7, H⟩ := H
    refine JO.y 4 (Yld.le lx7) ?_
    refine JO.s 5 (OpOk.cv f [.int .u8 x7] (CallV.mono H ?_ (fun _ _ hx => hx)))
    rintro _ h9 ⟨r8, rfl, H⟩
    refine JO.end_ (JC.next ?_)
    refine JC.cd r8 (fun hb => ?_) (fun hb => ?_)
    · have H := H.1 (hb)
      refine JC.seq (JC.region ?_)
      refine JO.p 2 [(4, .int .i64 s1)] ?_
      refine JO.end_ (JC.next (JC.ret ?_))
      exact JK.retG1 (.int .i64 s1) rfl RVal.s ⟨s1, by kernel_rfl, H⟩
    · have H := H.2 (hb)
      refine JC.skip (JC.next (JC.region ?_))
      refine JO.p 2 [(8, .int .i64 (IntKind.i64.wrap (s1 + 1)))] ?_
      refine JO.end_ ?_
      exact JK.inv (IntKind.i64.wrap (s1 + 1)) Sub.kk ⟨⟨(KeepB.nil _), H.1⟩, H.2⟩
  · have H := H.2 (of_decide_eq_false hb)
    refine JC.exit rfl ?_
    refine JC.next (JC.seq (JC.region ?_))
    refine JO.p 1 [(4, .int .i64 (-1))] ?_
    refine JO.end_ (JC.next (JC.ret ?_))
    exact JK.retG1 (.int .i64 (-1)) rfl RVal.s ⟨(-1), by kernel_rfl, H⟩

end Go.Proofs.YtefbonjcpdjhcaaGreatDoor.X
