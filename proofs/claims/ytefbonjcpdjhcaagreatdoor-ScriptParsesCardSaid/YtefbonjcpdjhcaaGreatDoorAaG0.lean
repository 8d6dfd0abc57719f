/- A part of the proof: The card of ScriptParses: for every line that the form allows, the law returns true and leaves its argument as it was; the listed package-level variables of Go's library hold what their initialisers lay. -/
import Derived.Test.YtefbonjcpdjhcaaGreatDoorAaT
/- Normal forms of functions, and that they imply the calls. Printed by a program of ours. -/
set_option linter.unusedVariables false
set_option maxRecDepth 100000
namespace Go.Proofs.YtefbonjcpdjhcaaGreatDoor.X
open Go Go.RowKit

def F_text_read_1.dbody (rec : Ifc) (free0 : Addr) (free1 : Addr) (h : Hp) (K : Hp → Prop) : Prop :=
((!rec.isNone) = true → TaW rec 104 (fun (x1 : V_text_fault) => (.agg #[] : Value)) (⟨⟩ : V_text_fault) (fun (x1 : V_text_fault) (k2 : Bool) => ((!k2) = true → ∀ (p3 : Nat) (h5 : Hp), New p3 h h5 → Ev [p3] h h5 → False) ∧
((!k2) = false → ∀ (p3 : Nat) (h5 : Hp), New p3 h h5 → Ev [p3] h h5 → StoreW h5 free0 [.int .i64 0, .int .i64 0, .string (ba ([] : Str)), sl (⟨none, 0, 0⟩ : Sl)] (fun (h6 : Hp) => SameOn [p3] h5 h6 ∧ StoreW h6 free1 [.bool false] (fun (h7 : Hp) => SameOn [p3] h6 h7 ∧ K h7))))) ∧
((!rec.isNone) = false → K h)
theorem F_text_read_1.dok (free0 : Addr) (free1 : Addr) : DOk Tryz.prog { target := .fn (.func 67) #[.pointer (some free0), .pointer (some free1)], args := #[] } (fun rec h R => F_text_read_1.dbody rec free0 free1 h R) := by
  refine fun rec h K H w u hw hu => ⟨_, _, 67, #[.pointer (some free0), .pointer (some free1)], rfl, rfl, recovers Tryz.func67 rfl rfl rfl rfl rfl hw hu fun w0 hw0 => ?_⟩
  dsimp only at H
  unfold F_text_read_1.dbody at H
  refine JC.seq (JC.region ?_)
  refine JO.p 1 [(6, ifc rec)] ?_
  refine JO.y 1 (Yld.nF rec) ?_
  refine JO.end_ (JC.next ?_)
  refine JC.cd (!rec.isNone) (fun hb => ?_) (fun hb => ?_)
  · have H := H.1 (hb)
    refine JC.seq (JC.seq (JC.region ?_))
    refine JO.p 1 [(9, ifc rec)] ?_
    obtain ⟨x1, k2, h_1, h_2, H⟩ := H
    refine JO.y 1 (Yld.ta (u := .agg #[]) (z := .agg #[]) (ok := k2) rec h_1 (fun e => ⟨(h_2 e).1, by first | rw [(h_2 e).2] | rfl⟩)) ?_
    refine JO.p 5 [(11, .agg #[]), (12, .bool k2)] ?_
    refine JO.s 5 (OpOk.bp [] 104 ?_)
    intro p3 h4 hp hh
    have hE := Ev.refl [] h
    have hB := KeepB.nil h
    have hNp3 : Array.size h ≤ p3 := hp ▸ hE.size
    have hB : KeepB [(p3, .cells #[] 104 (0, 0))] h4 := hB.push hp hh
    have hE := hE.push hp hh
    refine JO.s 6 (OpOk.st [] (KeepB.st hB 0 0 0) ?_)
    intro h5 hh
    have hE := hE.set hh (by simp [add_block])
    have hB : KeepB [(p3, .cells #[] 104 (0, 0))] h5 := hB.set 0 rfl (off := 0) rfl hh
    refine JO.p 8 [(4, .bool k2)] ?_
    refine JO.end_ (JC.next (JC.seq (JC.region ?_)))
    refine JO.p 2 [(14, .bool (!k2))] ?_
    refine JO.end_ (JC.next ?_)
    refine JC.cd (!k2) (fun hb => ?_) (fun hb => ?_)
    · have H := H.1 (hb)
      refine JC.region ?_
      refine JO.p 1 [(15, ifc rec)] ?_
      have H := H p3 h5 ⟨hNp3, hB.l 0⟩ hE
      have hE := Ev.refl [p3] h5
      exact False.elim H
    · have H := H.2 (hb)
      refine JC.skip (JC.next (JC.region ?_))
      refine JO.p 1 [(16, .agg #[.int .i64 0, .int .i64 0, .string (ba ([] : Str)), sl (⟨none, 0, 0⟩ : Sl)])] ?_
      have H := H p3 h5 ⟨hNp3, hB.l 0⟩ hE
      have hE := Ev.refl [p3] h5
      obtain ⟨hs, H⟩ := H
      refine JO.s 1 (OpOk.st [.int .i64 0, .int .i64 0, .string (ba ([] : Str)), sl (⟨none, 0, 0⟩ : Sl)] hs ?_)
      intro h6 hh
      obtain ⟨hS, H⟩ := H h6 hh
      have hB := hB.same hS
      have hE := Ev.refl [p3] h6
      obtain ⟨hs, H⟩ := H
      refine JO.s 2 (OpOk.st [.bool false] hs ?_)
      intro h7 hh
      obtain ⟨hS, H⟩ := H h7 hh
      have hB := hB.same hS
      have hE := Ev.refl [p3] h7
      refine JO.end_ ?_
      exact JK.retDb H
  · have H := H.2 (hb)
    refine JC.skip ?_
    exact JK.retDb H

def F_tenurelaw31_ScriptParses.body (line : Str) (h : Hp) (K : Bool → Hp → Prop) (X : Chain → Hp → Prop) : Prop :=
((line.length : Int) > 4200 → K true h) ∧
(¬ ((line.length : Int) > 4200) → F_script_Parse.call line h (fun (r1 : V_api_Deed) (r2 : Int) (h3 : Hp) => ∀ (p4 : Nat) (h6 : Hp), New p4 h3 h6 → Ev [p4] h3 h6 → (LtAll [p4] h6 → F_tenureref31_Parse.call line h6 (fun (r7 : V_api_Deed) (r8 : Int) (h9 : Hp) => SameOn [p4] h6 h9 ∧ ∀ (p10 : Nat) (h12 : Hp), New p10 h9 h12 → Ev [p10, p4] h9 h12 → (LtAll [p10, p4] h12 → F_tenurelaw31_same.call r1 r7 h12 (fun (r13 : Bool) (h14 : Hp) => SameOn [p10, p4] h12 h14 ∧ JoinW (fun (k16 : Bool → Hp → Prop) =>
((r13 && (r2 == r8)) = true → (LtAll [p10, p4] h14 → F_tenurelaw31_awake.call  h14 (fun (r20 : Bool) (h21 : Hp) => SameOn [p10, p4] h14 h21 ∧ k16 r20 h21) X)) ∧
((r13 && (r2 == r8)) = false → k16 false h14)) (fun (y17 : Bool) h18 =>
K y17 h18)) X)) X)) X)
theorem F_tenurelaw31_ScriptParses.sound {line : Str} {h : Hp} {K : Bool → Hp → Prop} {X : Chain → Hp → Prop} (H : F_tenurelaw31_ScriptParses.body line h K X) : F_tenurelaw31_ScriptParses.call line h K X := by
  unfold F_tenurelaw31_ScriptParses.body at H
  refine CallH.of Tryz.func3 rfl rfl fun w0 hw0 => ?_
  refine JC.seq (JC.region ?_)
  refine JO.p 1 [(2, .bool false)] ?_
  refine JO.end_ (JC.next (JC.seq (JC.seq (JC.region ?_))))
  refine JO.p 3 [(9, .bool (decide ((line.length : Int) > 4200)))] ?_
  refine JO.end_ (JC.next ?_)
  refine JC.cd (decide ((line.length : Int) > 4200)) (fun hb => ?_) (fun hb => ?_)
  · have H := H.1 (of_decide_eq_true hb)
    refine JC.seq (JC.region ?_)
    refine JO.p 1 [(2, .bool true)] ?_
    refine JO.end_ (JC.next (JC.ret ?_))
    exact JK.retG1 (.bool true) rfl RVal.s ⟨true, by kernel_rfl, H⟩
  · have H := H.2 (of_decide_eq_false hb)
    refine JC.skip (JC.next (JC.seq (JC.region ?_)))
    refine JO.p 1 [(11, .string (ba line))] ?_
    refine JO.s 1 (OpOk.c (CallH.mono H ?_ fun _ _ hx => hx))
    rintro _ h3 ⟨r1, r2, rfl, H⟩
    refine JO.p 5 [(13, .agg #[.int .i64 r1.Kind, .int .i64 r1.N, .string (ba r1.Name), .int .i64 r1.T.Kind, .int .i64 r1.T.N, .string (ba r1.T.S), sl r1.T.L, sl r1.L]), (14, .int .i64 r2)] ?_
    refine JO.s 5 (OpOk.bp [.int .i64 0, .int .i64 0, .string (ba ([] : Str)), .int .i64 0, .int .i64 0, .string (ba ([] : Str)), sl (⟨none, 0, 0⟩ : Sl), sl (⟨none, 0, 0⟩ : Sl)] 26 ?_)
    intro p4 h5 hp hh
    have hE := Ev.refl [] h3
    have hB := KeepB.nil h3
    have hNp4 : Array.size h3 ≤ p4 := hp ▸ hE.size
    have hB : KeepB [(p4, .cells #[.int .i64 0, .int .i64 0, .string (ba ([] : Str)), .int .i64 0, .int .i64 0, .string (ba ([] : Str)), sl (⟨none, 0, 0⟩ : Sl), sl (⟨none, 0, 0⟩ : Sl)] 26 (0, 0))] h5 := hB.push hp hh
    have hE := hE.push hp hh
    refine JO.s 6 (OpOk.st [.int .i64 r1.Kind, .int .i64 r1.N, .string (ba r1.Name), .int .i64 r1.T.Kind, .int .i64 r1.T.N, .string (ba r1.T.S), sl r1.T.L, sl r1.L] (KeepB.st hB 0 0 8) ?_)
    intro h6 hh
    have hE := hE.set hh (by simp [add_block])
    have hB : KeepB [(p4, .cells #[.int .i64 r1.Kind, .int .i64 r1.N, .string (ba r1.Name), .int .i64 r1.T.Kind, .int .i64 r1.T.N, .string (ba r1.T.S), sl r1.T.L, sl r1.L] 26 (0, 0))] h6 := hB.set 0 rfl (off := 0) rfl hh
    refine JO.p 8 [(4, .int .i64 r2)] ?_
    refine JO.end_ (JC.next (JC.seq (JC.region ?_)))
    refine JO.p 1 [(16, .string (ba line))] ?_
    have H := H p4 h6 ⟨hNp4, hB.l 0⟩ hE
    have hE := Ev.refl [p4] h6
    have H := H hB.ltAll
    refine JO.s 1 (OpOk.c (CallH.mono H ?_ fun _ _ hx => hx))
    rintro _ h9 ⟨r7, r8, rfl, hS, H⟩
    have hB := hB.same hS
    have hE := Ev.refl [p4] h9
    refine JO.p 5 [(18, .agg #[.int .i64 r7.Kind, .int .i64 r7.N, .string (ba r7.Name), .int .i64 r7.T.Kind, .int .i64 r7.T.N, .string (ba r7.T.S), sl r7.T.L, sl r7.L]), (19, .int .i64 r8)] ?_
    refine JO.s 5 (OpOk.bp [.int .i64 0, .int .i64 0, .string (ba ([] : Str)), .int .i64 0, .int .i64 0, .string (ba ([] : Str)), sl (⟨none, 0, 0⟩ : Sl), sl (⟨none, 0, 0⟩ : Sl)] 26 ?_)
    intro p10 h11 hp hh
    have hNp10 : Array.size h9 ≤ p10 := hp ▸ hE.size
    have hB : KeepB [(p10, .cells #[.int .i64 0, .int .i64 0, .string (ba ([] : Str)), .int .i64 0, .int .i64 0, .string (ba ([] : Str)), sl (⟨none, 0, 0⟩ : Sl), sl (⟨none, 0, 0⟩ : Sl)] 26 (0, 0)), (p4, .cells #[.int .i64 r1.Kind, .int .i64 r1.N, .string (ba r1.Name), .int .i64 r1.T.Kind, .int .i64 r1.T.N, .string (ba r1.T.S), sl r1.T.L, sl r1.L] 26 (0, 0))] h11 := hB.push hp hh
    have hE := hE.push hp hh
    refine JO.s 6 (OpOk.st [.int .i64 r7.Kind, .int .i64 r7.N, .string (ba r7.Name), .int .i64 r7.T.Kind, .int .i64 r7.T.N, .string (ba r7.T.S), sl r7.T.L, sl r7.L] (KeepB.st hB 0 0 8) ?_)
    intro h12 hh
    have hE := hE.set hh (by simp [add_block])
    have hB : KeepB [(p10, .cells #[.int .i64 r7.Kind, .int .i64 r7.N, .string (ba r7.Name), .int .i64 r7.T.Kind, .int .i64 r7.T.N, .string (ba r7.T.S), sl r7.T.L, sl r7.L] 26 (0, 0)), (p4, .cells #[.int .i64 r1.Kind, .int .i64 r1.N, .string (ba r1.Name), .int .i64 r1.T.Kind, .int .i64 r1.T.N, .string (ba r1.T.S), sl r1.T.L, sl r1.L] 26 (0, 0))] h12 := hB.set 0 rfl (off := 0) rfl hh
    refine JO.p 8 [(6, .int .i64 r8)] ?_
    refine JO.end_ (JC.next (JC.seq (JC.region ?_)))
    refine JO.y 0 (Yld.lne (KeepB.c hB 1 0 [.int .i64 r1.Kind, .int .i64 r1.N, .string (ba r1.Name), .int .i64 r1.T.Kind, .int .i64 r1.T.N, .string (ba r1.T.S), sl r1.T.L, sl r1.L])) ?_
    refine JO.y 1 (Yld.lne (KeepB.c hB 0 0 [.int .i64 r7.Kind, .int .i64 r7.N, .string (ba r7.Name), .int .i64 r7.T.Kind, .int .i64 r7.T.N, .string (ba r7.T.S), sl r7.T.L, sl r7.L])) ?_
    have H := H p10 h12 ⟨hNp10, hB.l 0⟩ hE
    have hE := Ev.refl [p10, p4] h12
    have H := H hB.ltAll
    refine JO.s 2 (OpOk.c (CallH.mono H ?_ fun _ _ hx => hx))
    rintro _ h14 ⟨r13, rfl, hS, H⟩
    have hB := hB.same hS
    have hE := Ev.refl [p10, p4] h14
    refine JO.p 4 [(23, .bool r13)] ?_
    refine JO.jq 8 [(27, .bool (r13 && (r2 == r8)))] ?_ ?_
    · refine JO.cs 23 r13 (fun hc15 => ?_) (fun hc15 => ?_)
      · refine JO.p 8 [(27, .bool (r2 == r8))] ?_
        refine JO.end_ ?_
        exact JK.invQ (Sub.of (by (try rw [hc15]); first | done | kernel_rfl))
      · refine JO.p 8 [(27, .bool false)] ?_
        refine JO.end_ ?_
        exact JK.invQ (Sub.of (by (try rw [hc15]); first | done | kernel_rfl))
    refine JO.p 9 [(28, .bool (r13 && (r2 == r8)))] ?_
    obtain ⟨k16, H, Hk16⟩ := H
    refine JO.jn (S := Bool) 11 (fun y17 => [(30, .bool y17)]) (fun y17 h' => KeepB [(p10, .cells #[.int .i64 r7.Kind, .int .i64 r7.N, .string (ba r7.Name), .int .i64 r7.T.Kind, .int .i64 r7.T.N, .string (ba r7.T.S), sl r7.T.L, sl r7.L] 26 (0, 0)), (p4, .cells #[.int .i64 r1.Kind, .int .i64 r1.N, .string (ba r1.Name), .int .i64 r1.T.Kind, .int .i64 r1.T.N, .string (ba r1.T.S), sl r1.T.L, sl r1.L] 26 (0, 0))] h' ∧ k16 y17 h') ?_ ?_
    · refine JO.cs 28 (r13 && (r2 == r8)) (fun hc19 => ?_) (fun hc19 => ?_)
      · have H := H.1 (hc19)
        have H := H hB.ltAll
        refine JO.s 9 (OpOk.c (CallH.mono H ?_ fun _ _ hx => hx))
        rintro _ h21 ⟨r20, rfl, hS, H⟩
        have hB := hB.same hS
        have hE := Ev.refl [p10, p4] h21
        refine JO.p 11 [(30, .bool r20)] ?_
        refine JO.end_ ?_
        exact JK.inv r20 (Sub.of (by (try rw [hc19]); first | done | kernel_rfl)) ⟨hB, H⟩
      · have H := H.2 (hc19)
        refine JO.p 11 [(30, .bool false)] ?_
        refine JO.end_ ?_
        exact JK.inv false (Sub.of (by (try rw [hc19]); first | done | kernel_rfl)) ⟨hB, H⟩
    rintro y17 h18 ⟨hB, hk⟩
    have H := Hk16 y17 h18 hk
    have hE := Ev.refl [p10, p4] h18
    refine JO.p 12 [(2, .bool y17)] ?_
    refine JO.end_ (JC.next (JC.ret ?_))
    exact JK.retG1 (.bool y17) rfl RVal.s ⟨y17, by kernel_rfl, H⟩

def F_script_Parse.body (line : Str) (h : Hp) (K : V_api_Deed → Int → Hp → Prop) (X : Chain → Hp → Prop) : Prop :=
((line.length : Int) > 4000 → ∀ (p1 : Nat) (h3 : Hp), New p1 h h3 → Ev [p1] h h3 → K (⟨0, 0, ([] : Str), (⟨0, 0, ([] : Str), (⟨none, 0, 0⟩ : Sl)⟩ : V_api_Term), (⟨none, 0, 0⟩ : Sl)⟩ : V_api_Deed) 3 h3) ∧
(¬ ((line.length : Int) > 4000) → ∀ (p1 : Nat) (h2 : Hp), New p1 h h2 → Ev [p1] h h2 → (LtAll [p1] h2 → F_strings_Cut.call line ([32] : Str) h2 (fun (r4 : Str) (r5 : Str) (r6 : Bool) (h7 : Hp) => SameOn [p1] h2 h7 ∧ (LtAll [p1] h7 → F_script_words.call  h7 (fun (r8 : Option Nat) (h9 : Hp) => SameOn [p1] h7 h9 ∧ LookW h9 r8 r4 (fun (x10 : V_script_want) => (.agg #[.int .i64 x10.kind, .bool x10.names, .bool x10.terms] : Value)) (⟨0, false, false⟩ : V_script_want) (fun (x10 : V_script_want) (k11 : Bool) => ((!k11) = true → ∀ (p13 : Nat) (h16 : Hp), New p13 h9 h16 → Ev [p13, p1] h9 h16 → K (⟨0, 0, ([] : Str), (⟨0, 0, ([] : Str), (⟨none, 0, 0⟩ : Sl)⟩ : V_api_Term), (⟨none, 0, 0⟩ : Sl)⟩ : V_api_Deed) 6 h16) ∧
((!k11) = false → ∀ (p13 : Nat) (p17 : Nat) (h19 : Hp), New p13 h9 h19 → New p17 h9 h19 → Ev [p17, p13, p1] h9 h19 → JoinW (fun (k20 : (Bool × V_api_Deed) → Hp → Prop) =>
(x10.names = true → (LtAll [p17, p13, p1] h19 → F_script_named.call r5 h19 (fun (r23 : V_api_Deed) (r24 : Bool) (h25 : Hp) => SameOn [p17, p13, p1] h19 h25 ∧ ∀ (h26 : Hp), Ev [p17, p13, p1] h25 h26 → k20 (r24, r23) h26) X)) ∧
(x10.names = false → (x10.terms = true → (LtAll [p17, p13, p1] h19 → F_strings_Cut.call r5 ([32] : Str) h19 (fun (r27 : Str) (r28 : Str) (r29 : Bool) (h30 : Hp) => SameOn [p17, p13, p1] h19 h30 ∧ (LtAll [p17, p13, p1] h30 → F_text_Read.call r28 h30 (fun (r31 : V_api_Term) (r32 : Int) (h33 : Hp) => SameOn [p17, p13, p1] h30 h33 ∧ ∀ (p34 : Nat) (h36 : Hp), New p34 h33 h36 → Ev [p34, p17, p13, p1] h33 h36 → (LtAll [p34, p17, p13, p1] h36 → F_script_number.call r27 h36 (fun (r37 : Int) (r38 : Bool) (h39 : Hp) => SameOn [p34, p17, p13, p1] h36 h39 ∧ ∀ (h43 : Hp), Ev [p34, p17, p13, p1] h39 h43 → k20 ((r38 && r29) && (r32 == 0), (⟨x10.kind, r37, ([] : Str), r31, (⟨none, 0, 0⟩ : Sl)⟩ : V_api_Deed)) h43) X)) X)) X)) ∧
(x10.terms = false → (LtAll [p17, p13, p1] h19 → F_script_number.call r5 h19 (fun (r44 : Int) (r45 : Bool) (h46 : Hp) => SameOn [p17, p13, p1] h19 h46 ∧ ∀ (h47 : Hp), Ev [p17, p13, p1] h46 h47 → k20 (r45, (⟨x10.kind, r44, ([] : Str), (⟨0, 0, ([] : Str), (⟨none, 0, 0⟩ : Sl)⟩ : V_api_Term), (⟨none, 0, 0⟩ : Sl)⟩ : V_api_Deed)) h47) X)))) (fun (s21 : Bool × V_api_Deed) h22 =>
(((!s21.1) || (!r6)) = true → ∀ (h49 : Hp), Ev [p17, p13, p1] h22 h49 → K (⟨0, 0, ([] : Str), (⟨0, 0, ([] : Str), (⟨none, 0, 0⟩ : Sl)⟩ : V_api_Term), (⟨none, 0, 0⟩ : Sl)⟩ : V_api_Deed) 4 h49) ∧
(((!s21.1) || (!r6)) = false → ∀ (h50 : Hp), Ev [p17, p13, p1] h22 h50 → K s21.2 0 h50))))) X)) X))
theorem F_script_Parse.sound {line : Str} {h : Hp} {K : V_api_Deed → Int → Hp → Prop} {X : Chain → Hp → Prop} (H : F_script_Parse.body line h K X) : F_script_Parse.call line h K X := by
  unfold F_script_Parse.body at H
  refine CallH.of Tryz.func8 rfl rfl fun w0 hw0 => ?_
  refine JC.seq (JC.region ?_)
  refine JO.s 0 (OpOk.bp [.int .i64 0, .int .i64 0, .string (ba ([] : Str)), .int .i64 0, .int .i64 0, .string (ba ([] : Str)), sl (⟨none, 0, 0⟩ : Sl), sl (⟨none, 0, 0⟩ : Sl)] 26 ?_)
  intro p1 h2 hp hh
  have hE := Ev.refl [] h
  have hB := KeepB.nil h
  have hNp1 : Array.size h ≤ p1 := hp ▸ hE.size
  have hB : KeepB [(p1, .cells #[.int .i64 0, .int .i64 0, .string (ba ([] : Str)), .int .i64 0, .int .i64 0, .string (ba ([] : Str)), sl (⟨none, 0, 0⟩ : Sl), sl (⟨none, 0, 0⟩ : Sl)] 26 (0, 0))] h2 := hB.push hp hh
  have hE := hE.push hp hh
  refine JO.p 2 [(3, .int .i64 0)] ?_
  refine JO.end_ (JC.next (JC.seq (JC.seq (JC.region ?_))))
  refine JO.p 3 [(18, .bool (decide ((line.length : Int) > 4000)))] ?_
  refine JO.end_ (JC.next ?_)
  refine JC.cd (decide ((line.length : Int) > 4000)) (fun hb => ?_) (fun hb => ?_)
  · have H := H.1 (of_decide_eq_true hb)
    refine JC.seq (JC.region ?_)
    refine JO.p 1 [(19, .agg #[.int .i64 0, .int .i64 0, .string (ba ([] : Str)), .int .i64 0, .int .i64 0, .string (ba ([] : Str)), sl (⟨none, 0, 0⟩ : Sl), sl (⟨none, 0, 0⟩ : Sl)])] ?_
    refine JO.s 1 (OpOk.st [.int .i64 0, .int .i64 0, .string (ba ([] : Str)), .int .i64 0, .int .i64 0, .string (ba ([] : Str)), sl (⟨none, 0, 0⟩ : Sl), sl (⟨none, 0, 0⟩ : Sl)] (KeepB.st hB 0 0 8) ?_)
    intro h3 hh
    have hE := hE.set hh (by simp [add_block])
    have hB : KeepB [(p1, .cells #[.int .i64 0, .int .i64 0, .string (ba ([] : Str)), .int .i64 0, .int .i64 0, .string (ba ([] : Str)), sl (⟨none, 0, 0⟩ : Sl), sl (⟨none, 0, 0⟩ : Sl)] 26 (0, 0))] h3 := hB.set 0 rfl (off := 0) rfl hh
    refine JO.p 3 [(3, .int .i64 3)] ?_
    refine JO.end_ (JC.next (JC.ret ?_))
    have H := H p1 h3 ⟨hNp1, hB.l 0⟩ hE
    have hE := Ev.refl [p1] h3
    exact JK.retG2 (.agg #[.int .i64 0, .int .i64 0, .string (ba ([] : Str)), .int .i64 0, .int .i64 0, .string (ba ([] : Str)), sl (⟨none, 0, 0⟩ : Sl), sl (⟨none, 0, 0⟩ : Sl)]) (.int .i64 3) rfl (RVal.bN p1 26 hB 0) RVal.s ⟨(⟨0, 0, ([] : Str), (⟨0, 0, ([] : Str), (⟨none, 0, 0⟩ : Sl)⟩ : V_api_Term), (⟨none, 0, 0⟩ : Sl)⟩ : V_api_Deed), 3, by kernel_rfl, H⟩
  · have H := H.2 (of_decide_eq_false hb)
    refine JC.skip (JC.next (JC.seq (JC.region ?_)))
    refine JO.p 1 [(21, .string (ba line))] ?_
    have H := H p1 h2 ⟨hNp1, hB.l 0⟩ hE
    have hE := Ev.refl [p1] h2
    have H := H hB.ltAll
    refine JO.s 1 (OpOk.c (CallH.mono H ?_ fun _ _ hx => hx))
    rintro _ h7 ⟨r4, r5, r6, rfl, hS, H⟩
    have hB := hB.same hS
    have hE := Ev.refl [p1] h7
    refine JO.p 9 [(4, .string (ba r4)), (5, .string (ba r5)), (6, .bool r6)] ?_
    refine JO.end_ (JC.next (JC.seq (JC.region ?_)))
    have H := H hB.ltAll
    refine JO.s 0 (OpOk.c (CallH.mono H ?_ fun _ _ hx => hx))
    rintro _ h9 ⟨r8, rfl, hS, H⟩
    have hB := hB.same hS
    have hE := Ev.refl [p1] h9
    refine JO.p 2 [(28, .string (ba r4))] ?_
    obtain ⟨kv12, x10, k11, h_0, h_1, h_2, H⟩ := H
    refine JO.y 2 (Yld.lk (kt := 9) (et := 48) (v := .agg #[.int .i64 x10.kind, .bool x10.names, .bool x10.terms]) (z := .agg #[.int .i64 0, .bool false, .bool false]) (ok := k11) r8 r4 h_0 h_1 (fun e => ⟨(h_2 e).1, by rw [(h_2 e).2]⟩)) ?_
    refine JO.p 6 [(30, .agg #[.int .i64 x10.kind, .bool x10.names, .bool x10.terms]), (31, .bool k11)] ?_
    refine JO.s 6 (OpOk.bp [.int .i64 0, .bool false, .bool false] 48 ?_)
    intro p13 h14 hp hh
    have hNp13 : Array.size h9 ≤ p13 := hp ▸ hE.size
    have hB : KeepB [(p13, .cells #[.int .i64 0, .bool false, .bool false] 48 (0, 0)), (p1, .cells #[.int .i64 0, .int .i64 0, .string (ba ([] : Str)), .int .i64 0, .int .i64 0, .string (ba ([] : Str)), sl (⟨none, 0, 0⟩ : Sl), sl (⟨none, 0, 0⟩ : Sl)] 26 (0, 0))] h14 := hB.push hp hh
    have hE := hE.push hp hh
    refine JO.s 7 (OpOk.st [.int .i64 x10.kind, .bool x10.names, .bool x10.terms] (KeepB.st hB 0 0 3) ?_)
    intro h15 hh
    have hE := hE.set hh (by simp [add_block])
    have hB : KeepB [(p13, .cells #[.int .i64 x10.kind, .bool x10.names, .bool x10.terms] 48 (0, 0)), (p1, .cells #[.int .i64 0, .int .i64 0, .string (ba ([] : Str)), .int .i64 0, .int .i64 0, .string (ba ([] : Str)), sl (⟨none, 0, 0⟩ : Sl), sl (⟨none, 0, 0⟩ : Sl)] 26 (0, 0))] h15 := hB.set 0 rfl (off := 0) rfl hh
    refine JO.p 9 [(8, .bool k11)] ?_
    refine JO.end_ (JC.next (JC.seq (JC.seq (JC.region ?_))))
    refine JO.p 2 [(33, .bool (!k11))] ?_
    refine JO.end_ (JC.next ?_)
    refine JC.cd (!k11) (fun hb => ?_) (fun hb => ?_)
    · have H := H.1 (hb)
      refine JC.seq (JC.region ?_)
      refine JO.p 1 [(34, .agg #[.int .i64 0, .int .i64 0, .string (ba ([] : Str)), .int .i64 0, .int .i64 0, .string (ba ([] : Str)), sl (⟨none, 0, 0⟩ : Sl), sl (⟨none, 0, 0⟩ : Sl)])] ?_
      refine JO.s 1 (OpOk.st [.int .i64 0, .int .i64 0, .string (ba ([] : Str)), .int .i64 0, .int .i64 0, .string (ba ([] : Str)), sl (⟨none, 0, 0⟩ : Sl), sl (⟨none, 0, 0⟩ : Sl)] (KeepB.st hB 1 0 8) ?_)
      intro h16 hh
      have hE := hE.set hh (by simp [add_block])
      have hB : KeepB [(p13, .cells #[.int .i64 x10.kind, .bool x10.names, .bool x10.terms] 48 (0, 0)), (p1, .cells #[.int .i64 0, .int .i64 0, .string (ba ([] : Str)), .int .i64 0, .int .i64 0, .string (ba ([] : Str)), sl (⟨none, 0, 0⟩ : Sl), sl (⟨none, 0, 0⟩ : Sl)] 26 (0, 0))] h16 := hB.set 1 rfl (off := 0) rfl hh
      refine JO.p 3 [(3, .int .i64 6)] ?_
      refine JO.end_ (JC.next (JC.ret ?_))
      have H := H p13 h16 ⟨hNp13, hB.l 0⟩ hE
      have hE := Ev.refl [p13, p1] h16
      exact JK.retG2 (.agg #[.int .i64 0, .int .i64 0, .string (ba ([] : Str)), .int .i64 0, .int .i64 0, .string (ba ([] : Str)), sl (⟨none, 0, 0⟩ : Sl), sl (⟨none, 0, 0⟩ : Sl)]) (.int .i64 6) rfl (RVal.bN p1 26 hB 1) RVal.s ⟨(⟨0, 0, ([] : Str), (⟨0, 0, ([] : Str), (⟨none, 0, 0⟩ : Sl)⟩ : V_api_Term), (⟨none, 0, 0⟩ : Sl)⟩ : V_api_Deed), 6, by kernel_rfl, H⟩
    · have H := H.2 (hb)
      refine JC.skip (JC.next (JC.seq (JC.region ?_)))
      refine JO.p 1 [(35, .pointer (some ((⟨p13, 0, none⟩ : Addr).add 0)))] ?_
      refine JO.y 1 (Yld.le (KeepB.c hB 0 0 [.int .i64 x10.kind])) ?_
      refine JO.p 3 [(37, .agg #[.int .i64 x10.kind, .int .i64 0, .string (ba ([] : Str)), .int .i64 0, .int .i64 0, .string (ba ([] : Str)), sl (⟨none, 0, 0⟩ : Sl), sl (⟨none, 0, 0⟩ : Sl)])] ?_
      refine JO.s 3 (OpOk.bp [.int .i64 0, .int .i64 0, .string (ba ([] : Str)), .int .i64 0, .int .i64 0, .string (ba ([] : Str)), sl (⟨none, 0, 0⟩ : Sl), sl (⟨none, 0, 0⟩ : Sl)] 26 ?_)
      intro p17 h18 hp hh
      have hNp17 : Array.size h9 ≤ p17 := hp ▸ hE.size
      have hB : KeepB [(p17, .cells #[.int .i64 0, .int .i64 0, .string (ba ([] : Str)), .int .i64 0, .int .i64 0, .string (ba ([] : Str)), sl (⟨none, 0, 0⟩ : Sl), sl (⟨none, 0, 0⟩ : Sl)] 26 (0, 0)), (p13, .cells #[.int .i64 x10.kind, .bool x10.names, .bool x10.terms] 48 (0, 0)), (p1, .cells #[.int .i64 0, .int .i64 0, .string (ba ([] : Str)), .int .i64 0, .int .i64 0, .string (ba ([] : Str)), sl (⟨none, 0, 0⟩ : Sl), sl (⟨none, 0, 0⟩ : Sl)] 26 (0, 0))] h18 := hB.push hp hh
      have hE := hE.push hp hh
      refine JO.s 4 (OpOk.st [.int .i64 x10.kind, .int .i64 0, .string (ba ([] : Str)), .int .i64 0, .int .i64 0, .string (ba ([] : Str)), sl (⟨none, 0, 0⟩ : Sl), sl (⟨none, 0, 0⟩ : Sl)] (KeepB.st hB 0 0 8) ?_)
      intro h19 hh
      have hE := hE.set hh (by simp [add_block])
      have hB : KeepB [(p17, .cells #[.int .i64 x10.kind, .int .i64 0, .string (ba ([] : Str)), .int .i64 0, .int .i64 0, .string (ba ([] : Str)), sl (⟨none, 0, 0⟩ : Sl), sl (⟨none, 0, 0⟩ : Sl)] 26 (0, 0)), (p13, .cells #[.int .i64 x10.kind, .bool x10.names, .bool x10.terms] 48 (0, 0)), (p1, .cells #[.int .i64 0, .int .i64 0, .string (ba ([] : Str)), .int .i64 0, .int .i64 0, .string (ba ([] : Str)), sl (⟨none, 0, 0⟩ : Sl), sl (⟨none, 0, 0⟩ : Sl)] 26 (0, 0))] h19 := hB.set 0 rfl (off := 0) rfl hh
      refine JO.end_ (JC.next (JC.seq (JC.region ?_)))
      refine JO.p 1 [(10, .bool false)] ?_
      refine JO.end_ (JC.next ?_)
      have H := H p13 p17 h19 ⟨hNp13, hB.l 1⟩ ⟨hNp17, hB.l 0⟩ hE
      have hE := Ev.refl [p17, p13, p1] h19
      obtain ⟨k20, H, Hk20⟩ := H
      refine JC.join (S := Bool × V_api_Deed) (fun s21 => [(2, .pointer (some ⟨p1, 0, none⟩)), (6, .bool r6), (9, .pointer (some ⟨p17, 0, none⟩)), (10, .bool s21.1)]) (fun s21 h' => KeepB [(p17, .cells #[.int .i64 s21.2.Kind, .int .i64 s21.2.N, .string (ba s21.2.Name), .int .i64 s21.2.T.Kind, .int .i64 s21.2.T.N, .string (ba s21.2.T.S), sl s21.2.T.L, sl s21.2.L] 26 (0, 0)), (p13, .cells #[.int .i64 x10.kind, .bool x10.names, .bool x10.terms] 48 (0, 0)), (p1, .cells #[.int .i64 0, .int .i64 0, .string (ba ([] : Str)), .int .i64 0, .int .i64 0, .string (ba ([] : Str)), sl (⟨none, 0, 0⟩ : Sl), sl (⟨none, 0, 0⟩ : Sl)] 26 (0, 0))] h' ∧ k20 s21 h') ?_ ?_
      · refine JC.block (JC.seq (JC.region ?_))
        refine JO.p 1 [(45, .pointer (some ((⟨p13, 0, none⟩ : Addr).add 1)))] ?_
        refine JO.y 1 (Yld.le (KeepB.c hB 1 1 [.bool x10.names])) ?_
        refine JO.p 3 [(44, .bool x10.names)] ?_
        refine JO.end_ (JC.next ?_)
        refine JC.cd x10.names (fun hb => ?_) (fun hb => ?_)
        · have H := H.1 (hb)
          refine JC.region ?_
          refine JO.p 1 [(48, .string (ba r5))] ?_
          have H := H hB.ltAll
          refine JO.s 1 (OpOk.c (CallH.mono H ?_ fun _ _ hx => hx))
          rintro _ h25 ⟨r23, r24, rfl, hS, H⟩
          have hB := hB.same hS
          have hE := Ev.refl [p17, p13, p1] h25
          refine JO.p 5 [(50, .agg #[.int .i64 r23.Kind, .int .i64 r23.N, .string (ba r23.Name), .int .i64 r23.T.Kind, .int .i64 r23.T.N, .string (ba r23.T.S), sl r23.T.L, sl r23.L]), (51, .bool r24)] ?_
          refine JO.s 5 (OpOk.st [.int .i64 r23.Kind, .int .i64 r23.N, .string (ba r23.Name), .int .i64 r23.T.Kind, .int .i64 r23.T.N, .string (ba r23.T.S), sl r23.T.L, sl r23.L] (KeepB.st hB 0 0 8) ?_)
          intro h26 hh
          have hE := hE.set hh (by simp [add_block])
          have hB : KeepB [(p17, .cells #[.int .i64 r23.Kind, .int .i64 r23.N, .string (ba r23.Name), .int .i64 r23.T.Kind, .int .i64 r23.T.N, .string (ba r23.T.S), sl r23.T.L, sl r23.L] 26 (0, 0)), (p13, .cells #[.int .i64 x10.kind, .bool x10.names, .bool x10.terms] 48 (0, 0)), (p1, .cells #[.int .i64 0, .int .i64 0, .string (ba ([] : Str)), .int .i64 0, .int .i64 0, .string (ba ([] : Str)), sl (⟨none, 0, 0⟩ : Sl), sl (⟨none, 0, 0⟩ : Sl)] 26 (0, 0))] h26 := hB.set 0 rfl (off := 0) rfl hh
          refine JO.p 7 [(10, .bool r24)] ?_
          refine JO.end_ ?_
          have H := H h26 hE
          have hE := Ev.refl [p17, p13, p1] h26
          exact JK.inv (r24, r23) Sub.kk ⟨hB, H⟩
        · have H := H.2 (hb)
          refine JC.seq (JC.region ?_)
          refine JO.p 1 [(53, .pointer (some ((⟨p13, 0, none⟩ : Addr).add 2)))] ?_
          refine JO.y 1 (Yld.le (KeepB.c hB 1 2 [.bool x10.terms])) ?_
          refine JO.p 3 [(52, .bool x10.terms)] ?_
          refine JO.end_ (JC.next ?_)
          refine JC.cd x10.terms (fun hb => ?_) (fun hb => ?_)
          · have H := H.1 (hb)
            refine JC.seq (JC.region ?_)
            refine JO.p 1 [(56, .string (ba r5))] ?_
            have H := H hB.ltAll
            refine JO.s 1 (OpOk.c (CallH.mono H ?_ fun _ _ hx => hx))
            rintro _ h30 ⟨r27, r28, r29, rfl, hS, H⟩
            have hB := hB.same hS
            have hE := Ev.refl [p17, p13, p1] h30
            refine JO.p 9 [(11, .string (ba r27)), (12, .string (ba r28)), (13, .bool r29)] ?_
            refine JO.end_ (JC.next (JC.seq (JC.region ?_)))
            refine JO.p 1 [(62, .string (ba r28))] ?_
            have H := H hB.ltAll
            refine JO.s 1 (OpOk.c (CallH.mono H ?_ fun _ _ hx => hx))
            rintro _ h33 ⟨r31, r32, rfl, hS, H⟩
            have hB := hB.same hS
            have hE := Ev.refl [p17, p13, p1] h33
            refine JO.p 5 [(64, .agg #[.int .i64 r31.Kind, .int .i64 r31.N, .string (ba r31.S), sl r31.L]), (65, .int .i64 r32)] ?_
            refine JO.s 5 (OpOk.bp [.int .i64 0, .int .i64 0, .string (ba ([] : Str)), sl (⟨none, 0, 0⟩ : Sl)] 24 ?_)
            intro p34 h35 hp hh
            have hNp34 : Array.size h33 ≤ p34 := hp ▸ hE.size
            have hB : KeepB [(p34, .cells #[.int .i64 0, .int .i64 0, .string (ba ([] : Str)), sl (⟨none, 0, 0⟩ : Sl)] 24 (0, 0)), (p17, .cells #[.int .i64 x10.kind, .int .i64 0, .string (ba ([] : Str)), .int .i64 0, .int .i64 0, .string (ba ([] : Str)), sl (⟨none, 0, 0⟩ : Sl), sl (⟨none, 0, 0⟩ : Sl)] 26 (0, 0)), (p13, .cells #[.int .i64 x10.kind, .bool x10.names, .bool x10.terms] 48 (0, 0)), (p1, .cells #[.int .i64 0, .int .i64 0, .string (ba ([] : Str)), .int .i64 0, .int .i64 0, .string (ba ([] : Str)), sl (⟨none, 0, 0⟩ : Sl), sl (⟨none, 0, 0⟩ : Sl)] 26 (0, 0))] h35 := hB.push hp hh
            have hE := hE.push hp hh
            refine JO.s 6 (OpOk.st [.int .i64 r31.Kind, .int .i64 r31.N, .string (ba r31.S), sl r31.L] (KeepB.st hB 0 0 4) ?_)
            intro h36 hh
            have hE := hE.set hh (by simp [add_block])
            have hB : KeepB [(p34, .cells #[.int .i64 r31.Kind, .int .i64 r31.N, .string (ba r31.S), sl r31.L] 24 (0, 0)), (p17, .cells #[.int .i64 x10.kind, .int .i64 0, .string (ba ([] : Str)), .int .i64 0, .int .i64 0, .string (ba ([] : Str)), sl (⟨none, 0, 0⟩ : Sl), sl (⟨none, 0, 0⟩ : Sl)] 26 (0, 0)), (p13, .cells #[.int .i64 x10.kind, .bool x10.names, .bool x10.terms] 48 (0, 0)), (p1, .cells #[.int .i64 0, .int .i64 0, .string (ba ([] : Str)), .int .i64 0, .int .i64 0, .string (ba ([] : Str)), sl (⟨none, 0, 0⟩ : Sl), sl (⟨none, 0, 0⟩ : Sl)] 26 (0, 0))] h36 := hB.set 0 rfl (off := 0) rfl hh
            refine JO.p 8 [(15, .int .i64 r32)] ?_
            refine JO.end_ (JC.next (JC.seq (JC.region ?_)))
            refine JO.p 1 [(67, .string (ba r27))] ?_
            have H := H p34 h36 ⟨hNp34, hB.l 0⟩ hE
            have hE := Ev.refl [p34, p17, p13, p1] h36
            have H := H hB.ltAll
            refine JO.s 1 (OpOk.c (CallH.mono H ?_ fun _ _ hx => hx))
            rintro _ h39 ⟨r37, r38, rfl, hS, H⟩
            have hB := hB.same hS
            have hE := Ev.refl [p34, p17, p13, p1] h39
            refine JO.p 6 [(69, .int .i64 r37), (70, .bool r38), (71, .pointer (some ((⟨p17, 0, none⟩ : Addr).add 1)))] ?_
            refine JO.s 6 (OpOk.st [.int .i64 r37] (KeepB.st hB 1 1 1) ?_)
            intro h40 hh
            have hE := hE.set hh (by simp [add_block])
            have hB : KeepB [(p34, .cells #[.int .i64 r31.Kind, .int .i64 r31.N, .string (ba r31.S), sl r31.L] 24 (0, 0)), (p17, .cells #[.int .i64 x10.kind, .int .i64 r37, .string (ba ([] : Str)), .int .i64 0, .int .i64 0, .string (ba ([] : Str)), sl (⟨none, 0, 0⟩ : Sl), sl (⟨none, 0, 0⟩ : Sl)] 26 (0, 0)), (p13, .cells #[.int .i64 x10.kind, .bool x10.names, .bool x10.terms] 48 (0, 0)), (p1, .cells #[.int .i64 0, .int .i64 0, .string (ba ([] : Str)), .int .i64 0, .int .i64 0, .string (ba ([] : Str)), sl (⟨none, 0, 0⟩ : Sl), sl (⟨none, 0, 0⟩ : Sl)] 26 (0, 0))] h40 := hB.set 1 rfl (off := 1) rfl hh
            refine JO.p 8 [(10, .bool r38)] ?_
            refine JO.end_ (JC.next (JC.region ?_))
            refine JO.y 0 (Yld.lne (KeepB.c hB 0 0 [.int .i64 r31.Kind, .int .i64 r31.N, .string (ba r31.S), sl r31.L])) ?_
            refine JO.p 3 [(74, .bool r38)] ?_
            refine JO.jq 5 [(2, .pointer (some ⟨p1, 0, none⟩)), (6, .bool r6), (9, .pointer (some ⟨p17, 0, none⟩)), (15, .int .i64 r32), (72, .agg #[.int .i64 r31.Kind, .int .i64 r31.N, .string (ba r31.S), sl r31.L]), (76, .bool (r38 && r29))] ?_ ?_
            · refine JO.cs 74 r38 (fun hc41 => ?_) (fun hc41 => ?_)
              · refine JO.p 5 [(76, .bool r29)] ?_
                refine JO.end_ ?_
                exact JK.invQ (Sub.of (by (try rw [hc41]); first | done | kernel_rfl))
              · refine JO.p 5 [(76, .bool false)] ?_
                refine JO.end_ ?_
                exact JK.invQ (Sub.of (by (try rw [hc41]); first | done | kernel_rfl))
            refine JO.p 6 [(77, .bool (r38 && r29))] ?_
            refine JO.jq 9 [(2, .pointer (some ⟨p1, 0, none⟩)), (6, .bool r6), (9, .pointer (some ⟨p17, 0, none⟩)), (72, .agg #[.int .i64 r31.Kind, .int .i64 r31.N, .string (ba r31.S), sl r31.L]), (80, .bool ((r38 && r29) && (r32 == 0)))] ?_ ?_
            · refine JO.cs 77 (r38 && r29) (fun hc42 => ?_) (fun hc42 => ?_)
              · refine JO.p 9 [(80, .bool (r32 == 0))] ?_
                refine JO.end_ ?_
                exact JK.invQ (Sub.of (by (try rw [hc42]); first | done | kernel_rfl))
              · refine JO.p 9 [(80, .bool false)] ?_
                refine JO.end_ ?_
                exact JK.invQ (Sub.of (by (try rw [hc42]); first | done | kernel_rfl))
            refine JO.p 10 [(81, .pointer (some ((⟨p17, 0, none⟩ : Addr).add 3)))] ?_
            refine JO.s 10 (OpOk.st [.int .i64 r31.Kind, .int .i64 r31.N, .string (ba r31.S), sl r31.L] (KeepB.st hB 1 3 4) ?_)
            intro h43 hh
            have hE := hE.set hh (by simp [add_block])
            have hB : KeepB [(p34, .cells #[.int .i64 r31.Kind, .int .i64 r31.N, .string (ba r31.S), sl r31.L] 24 (0, 0)), (p17, .cells #[.int .i64 x10.kind, .int .i64 r37, .string (ba ([] : Str)), .int .i64 r31.Kind, .int .i64 r31.N, .string (ba r31.S), sl r31.L, sl (⟨none, 0, 0⟩ : Sl)] 26 (0, 0)), (p13, .cells #[.int .i64 x10.kind, .bool x10.names, .bool x10.terms] 48 (0, 0)), (p1, .cells #[.int .i64 0, .int .i64 0, .string (ba ([] : Str)), .int .i64 0, .int .i64 0, .string (ba ([] : Str)), sl (⟨none, 0, 0⟩ : Sl), sl (⟨none, 0, 0⟩ : Sl)] 26 (0, 0))] h43 := hB.set 1 rfl (off := 3) rfl hh
            refine JO.p 12 [(10, .bool ((r38 && r29) && (r32 == 0)))] ?_
            refine JO.end_ ?_
            have H := H h43 hE
            have hE := Ev.refl [p34, p17, p13, p1] h43
            exact JK.inv ((r38 && r29) && (r32 == 0), (⟨x10.kind, r37, ([] : Str), r31, (⟨none, 0, 0⟩ : Sl)⟩ : V_api_Deed)) Sub.kk ⟨(hB.drop 1), H⟩
          · have H := H.2 (hb)
            refine JC.region ?_
            refine JO.p 1 [(39, .string (ba r5))] ?_
            have H := H hB.ltAll
            refine JO.s 1 (OpOk.c (CallH.mono H ?_ fun _ _ hx => hx))
            rintro _ h46 ⟨r44, r45, rfl, hS, H⟩
            have hB := hB.same hS
            have hE := Ev.refl [p17, p13, p1] h46
            refine JO.p 6 [(41, .int .i64 r44), (42, .bool r45), (43, .pointer (some ((⟨p17, 0, none⟩ : Addr).add 1)))] ?_
            refine JO.s 6 (OpOk.st [.int .i64 r44] (KeepB.st hB 0 1 1) ?_)
            intro h47 hh
            have hE := hE.set hh (by simp [add_block])
            have hB : KeepB [(p17, .cells #[.int .i64 x10.kind, .int .i64 r44, .string (ba ([] : Str)), .int .i64 0, .int .i64 0, .string (ba ([] : Str)), sl (⟨none, 0, 0⟩ : Sl), sl (⟨none, 0, 0⟩ : Sl)] 26 (0, 0)), (p13, .cells #[.int .i64 x10.kind, .bool x10.names, .bool x10.terms] 48 (0, 0)), (p1, .cells #[.int .i64 0, .int .i64 0, .string (ba ([] : Str)), .int .i64 0, .int .i64 0, .string (ba ([] : Str)), sl (⟨none, 0, 0⟩ : Sl), sl (⟨none, 0, 0⟩ : Sl)] 26 (0, 0))] h47 := hB.set 0 rfl (off := 1) rfl hh
            refine JO.p 8 [(10, .bool r45)] ?_
            refine JO.end_ ?_
            have H := H h47 hE
            have hE := Ev.refl [p17, p13, p1] h47
            exact JK.inv (r45, (⟨x10.kind, r44, ([] : Str), (⟨0, 0, ([] : Str), (⟨none, 0, 0⟩ : Sl)⟩ : V_api_Term), (⟨none, 0, 0⟩ : Sl)⟩ : V_api_Deed)) Sub.kk ⟨hB, H⟩
      · rintro s21 h22 ⟨hB, hk⟩
        have H := Hk20 s21 h22 hk
        have hE := Ev.refl [p17, p13, p1] h22
        refine JC.seq (JC.seq (JC.region ?_))
        refine JO.p 3 [(84, .bool (!s21.1))] ?_
        refine JO.jq 6 [(2, .pointer (some ⟨p1, 0, none⟩)), (9, .pointer (some ⟨p17, 0, none⟩)), (87, .bool ((!s21.1) || (!r6)))] ?_ ?_
        · refine JO.cs 84 (!s21.1) (fun hc48 => ?_) (fun hc48 => ?_)
          · refine JO.p 6 [(87, .bool true)] ?_
            refine JO.end_ ?_
            exact JK.invQ (Sub.of (by (try rw [hc48]); first | done | kernel_rfl))
          · refine JO.p 6 [(87, .bool (!r6))] ?_
            refine JO.end_ ?_
            exact JK.invQ (Sub.of (by (try rw [hc48]); first | done | kernel_rfl))
        refine JO.end_ (JC.next ?_)
        refine JC.cd ((!s21.1) || (!r6)) (fun hb => ?_) (fun hb => ?_)
        · have H := H.1 (hb)
          refine JC.seq (JC.region ?_)
          refine JO.p 1 [(88, .agg #[.int .i64 0, .int .i64 0, .string (ba ([] : Str)), .int .i64 0, .int .i64 0, .string (ba ([] : Str)), sl (⟨none, 0, 0⟩ : Sl), sl (⟨none, 0, 0⟩ : Sl)])] ?_
          refine JO.s 1 (OpOk.st [.int .i64 0, .int .i64 0, .string (ba ([] : Str)), .int .i64 0, .int .i64 0, .string (ba ([] : Str)), sl (⟨none, 0, 0⟩ : Sl), sl (⟨none, 0, 0⟩ : Sl)] (KeepB.st hB 2 0 8) ?_)
          intro h49 hh
          have hE := hE.set hh (by simp [add_block])
          have hB : KeepB [(p17, .cells #[.int .i64 s21.2.Kind, .int .i64 s21.2.N, .string (ba s21.2.Name), .int .i64 s21.2.T.Kind, .int .i64 s21.2.T.N, .string (ba s21.2.T.S), sl s21.2.T.L, sl s21.2.L] 26 (0, 0)), (p13, .cells #[.int .i64 x10.kind, .bool x10.names, .bool x10.terms] 48 (0, 0)), (p1, .cells #[.int .i64 0, .int .i64 0, .string (ba ([] : Str)), .int .i64 0, .int .i64 0, .string (ba ([] : Str)), sl (⟨none, 0, 0⟩ : Sl), sl (⟨none, 0, 0⟩ : Sl)] 26 (0, 0))] h49 := hB.set 2 rfl (off := 0) rfl hh
          refine JO.p 3 [(3, .int .i64 4)] ?_
          refine JO.end_ (JC.next (JC.ret ?_))
          have H := H h49 hE
          have hE := Ev.refl [p17, p13, p1] h49
          exact JK.retG2 (.agg #[.int .i64 0, .int .i64 0, .string (ba ([] : Str)), .int .i64 0, .int .i64 0, .string (ba ([] : Str)), sl (⟨none, 0, 0⟩ : Sl), sl (⟨none, 0, 0⟩ : Sl)]) (.int .i64 4) rfl (RVal.bN p1 26 hB 2) RVal.s ⟨(⟨0, 0, ([] : Str), (⟨0, 0, ([] : Str), (⟨none, 0, 0⟩ : Sl)⟩ : V_api_Term), (⟨none, 0, 0⟩ : Sl)⟩ : V_api_Deed), 4, by kernel_rfl, H⟩
        · have H := H.2 (hb)
          refine JC.skip (JC.next (JC.seq (JC.region ?_)))
          refine JO.y 0 (Yld.lne (KeepB.c hB 0 0 [.int .i64 s21.2.Kind, .int .i64 s21.2.N, .string (ba s21.2.Name), .int .i64 s21.2.T.Kind, .int .i64 s21.2.T.N, .string (ba s21.2.T.S), sl s21.2.T.L, sl s21.2.L])) ?_
          refine JO.s 1 (OpOk.st [.int .i64 s21.2.Kind, .int .i64 s21.2.N, .string (ba s21.2.Name), .int .i64 s21.2.T.Kind, .int .i64 s21.2.T.N, .string (ba s21.2.T.S), sl s21.2.T.L, sl s21.2.L] (KeepB.st hB 2 0 8) ?_)
          intro h50 hh
          have hE := hE.set hh (by simp [add_block])
          have hB : KeepB [(p17, .cells #[.int .i64 s21.2.Kind, .int .i64 s21.2.N, .string (ba s21.2.Name), .int .i64 s21.2.T.Kind, .int .i64 s21.2.T.N, .string (ba s21.2.T.S), sl s21.2.T.L, sl s21.2.L] 26 (0, 0)), (p13, .cells #[.int .i64 x10.kind, .bool x10.names, .bool x10.terms] 48 (0, 0)), (p1, .cells #[.int .i64 s21.2.Kind, .int .i64 s21.2.N, .string (ba s21.2.Name), .int .i64 s21.2.T.Kind, .int .i64 s21.2.T.N, .string (ba s21.2.T.S), sl s21.2.T.L, sl s21.2.L] 26 (0, 0))] h50 := hB.set 2 rfl (off := 0) rfl hh
          refine JO.p 3 [(3, .int .i64 0)] ?_
          refine JO.end_ (JC.next (JC.ret ?_))
          have H := H h50 hE
          have hE := Ev.refl [p17, p13, p1] h50
          exact JK.retG2 (.agg #[.int .i64 s21.2.Kind, .int .i64 s21.2.N, .string (ba s21.2.Name), .int .i64 s21.2.T.Kind, .int .i64 s21.2.T.N, .string (ba s21.2.T.S), sl s21.2.T.L, sl s21.2.L]) (.int .i64 0) rfl (RVal.bN p1 26 hB 2) RVal.s ⟨s21.2, 0, by kernel_rfl, H⟩

def F_tenureref31_Parse.body (line : Str) (h : Hp) (K : V_api_Deed → Int → Hp → Prop) (X : Chain → Hp → Prop) : Prop :=
((line.length : Int) > 4000 → ∀ (p1 : Nat) (h3 : Hp), New p1 h h3 → Ev [p1] h h3 → K (⟨0, 0, ([] : Str), (⟨0, 0, ([] : Str), (⟨none, 0, 0⟩ : Sl)⟩ : V_api_Term), (⟨none, 0, 0⟩ : Sl)⟩ : V_api_Deed) 3 h3) ∧
(¬ ((line.length : Int) > 4000) → ∀ (p1 : Nat) (h2 : Hp), New p1 h h2 → Ev [p1] h h2 → (LtAll [p1] h2 → F_tenureref31_Cut.call line h2 (fun (r4 : Str) (r5 : Str) (r6 : Bool) (h7 : Hp) => SameOn [p1] h2 h7 ∧ LoopW (fun (s8 : Int × Int) h9 next10 =>
(LtAll [p1] h9 → F_tenureref31_kinds.call  h9 (fun (r12 : Sl) (h13 : Hp) => SameOn [p1] h9 h13 ∧ (s8.2 < (r12.len : Int) → JoinW (fun (k14 : Int → Hp → Prop) =>
(LtAll [p1] h13 → F_tenureref31_kinds.call  h13 (fun (r17 : Sl) (h18 : Hp) => SameOn [p1] h13 h18 ∧ IdxW r17 s8.2 (fun (b20 : Addr) => LoadW h18 (b20.add (s8.2.toNat * 1)) cS (fun (x21 : Str) => ((cmpS .eql x21 r4) = true → ∀ (x22 : Int), x22 = IntKind.i64.wrap (s8.2 + 1) → k14 x22 h18) ∧
((cmpS .eql x21 r4) = false → k14 s8.1 h18)))) X)) (fun (s15 : Int) h16 =>
∀ (x23 : Int), x23 = IntKind.i64.wrap (s8.2 + 1) → next10 (s15, x23) h16)) ∧
(¬ (s8.2 < (r12.len : Int)) → ((s8.1 == 0) = true → ∀ (h24 : Hp), Ev [p1] h13 h24 → K (⟨0, 0, ([] : Str), (⟨0, 0, ([] : Str), (⟨none, 0, 0⟩ : Sl)⟩ : V_api_Term), (⟨none, 0, 0⟩ : Sl)⟩ : V_api_Deed) 6 h24) ∧
((s8.1 == 0) = false → ((!r6) = true → ∀ (h25 : Hp), Ev [p1] h13 h25 → K (⟨0, 0, ([] : Str), (⟨0, 0, ([] : Str), (⟨none, 0, 0⟩ : Sl)⟩ : V_api_Term), (⟨none, 0, 0⟩ : Sl)⟩ : V_api_Deed) 4 h25) ∧
((!r6) = false → ∀ (p26 : Nat) (h28 : Hp), New p26 h13 h28 → Ev [p26, p1] h13 h28 → JoinW (fun (k29 : (Bool × V_api_Deed) → Hp → Prop) =>
((s8.1 == 1) = true → (LtAll [p26, p1] h28 → F_tenureref31_spawn.call r5 h28 (fun (r32 : V_api_Deed) (r33 : Bool) (h34 : Hp) => SameOn [p26, p1] h28 h34 ∧ ∀ (h35 : Hp), Ev [p26, p1] h34 h35 → k29 (r33, r32) h35) X)) ∧
((s8.1 == 1) = false → JoinW (fun (k36 : Bool → Hp → Prop) =>
((s8.1 == 3) = true → k36 (s8.1 == 3) h28) ∧
((s8.1 == 3) = false → k36 (s8.1 == 4) h28)) (fun (s37 : Bool) h38 =>
(s37 = true → (LtAll [p26, p1] h38 → F_tenureref31_Cut.call r5 h38 (fun (r39 : Str) (r40 : Str) (r41 : Bool) (h42 : Hp) => SameOn [p26, p1] h38 h42 ∧ (LtAll [p26, p1] h42 → F_tenureref31_Number.call r39 h42 (fun (r43 : Int) (r44 : Bool) (h45 : Hp) => SameOn [p26, p1] h42 h45 ∧ ∀ (h46 : Hp), Ev [p26, p1] h45 h46 → (LtAll [p26, p1] h46 → F_tenureref05_Read.call r40 h46 (fun (r47 : V_api_Term) (r48 : Int) (h49 : Hp) => SameOn [p26, p1] h46 h49 ∧ ∀ (h50 : Hp), Ev [p26, p1] h49 h50 → k29 ((r44 && r41) && (r48 == 0), (⟨s8.1, r43, ([] : Str), r47, (⟨none, 0, 0⟩ : Sl)⟩ : V_api_Deed)) h50) X)) X)) X)) ∧
(s37 = false → (LtAll [p26, p1] h38 → F_tenureref31_Number.call r5 h38 (fun (r53 : Int) (r54 : Bool) (h55 : Hp) => SameOn [p26, p1] h38 h55 ∧ ∀ (h56 : Hp), Ev [p26, p1] h55 h56 → k29 (r54, (⟨s8.1, r53, ([] : Str), (⟨0, 0, ([] : Str), (⟨none, 0, 0⟩ : Sl)⟩ : V_api_Term), (⟨none, 0, 0⟩ : Sl)⟩ : V_api_Deed)) h56) X))))) (fun (s30 : Bool × V_api_Deed) h31 =>
((!s30.1) = true → ∀ (h57 : Hp), Ev [p26, p1] h31 h57 → K (⟨0, 0, ([] : Str), (⟨0, 0, ([] : Str), (⟨none, 0, 0⟩ : Sl)⟩ : V_api_Term), (⟨none, 0, 0⟩ : Sl)⟩ : V_api_Deed) 4 h57) ∧
((!s30.1) = false → ∀ (h58 : Hp), Ev [p26, p1] h31 h58 → K s30.2 0 h58)))))) X)) (0, 0) h7) X))
theorem F_tenureref31_Parse.sound {line : Str} {h : Hp} {K : V_api_Deed → Int → Hp → Prop} {X : Chain → Hp → Prop} (H : F_tenureref31_Parse.body line h K X) : F_tenureref31_Parse.call line h K X := by
  unfold F_tenureref31_Parse.body at H
  refine CallH.of Tryz.func9 rfl rfl fun w0 hw0 => ?_
  refine JC.seq (JC.region ?_)
  refine JO.s 0 (OpOk.bp [.int .i64 0, .int .i64 0, .string (ba ([] : Str)), .int .i64 0, .int .i64 0, .string (ba ([] : Str)), sl (⟨none, 0, 0⟩ : Sl), sl (⟨none, 0, 0⟩ : Sl)] 26 ?_)
  intro p1 h2 hp hh
  have hE := Ev.refl [] h
  have hB := KeepB.nil h
  have hNp1 : Array.size h ≤ p1 := hp ▸ hE.size
  have hB : KeepB [(p1, .cells #[.int .i64 0, .int .i64 0, .string (ba ([] : Str)), .int .i64 0, .int .i64 0, .string (ba ([] : Str)), sl (⟨none, 0, 0⟩ : Sl), sl (⟨none, 0, 0⟩ : Sl)] 26 (0, 0))] h2 := hB.push hp hh
  have hE := hE.push hp hh
  refine JO.p 2 [(3, .int .i64 0)] ?_
  refine JO.end_ (JC.next (JC.seq (JC.seq (JC.region ?_))))
  refine JO.p 3 [(17, .bool (decide ((line.length : Int) > 4000)))] ?_
  refine JO.end_ (JC.next ?_)
  refine JC.cd (decide ((line.length : Int) > 4000)) (fun hb => ?_) (fun hb => ?_)
  · have H := H.1 (of_decide_eq_true hb)
    refine JC.seq (JC.region ?_)
    refine JO.p 1 [(18, .agg #[.int .i64 0, .int .i64 0, .string (ba ([] : Str)), .int .i64 0, .int .i64 0, .string (ba ([] : Str)), sl (⟨none, 0, 0⟩ : Sl), sl (⟨none, 0, 0⟩ : Sl)])] ?_
    refine JO.s 1 (OpOk.st [.int .i64 0, .int .i64 0, .string (ba ([] : Str)), .int .i64 0, .int .i64 0, .string (ba ([] : Str)), sl (⟨none, 0, 0⟩ : Sl), sl (⟨none, 0, 0⟩ : Sl)] (KeepB.st hB 0 0 8) ?_)
    intro h3 hh
    have hE := hE.set hh (by simp [add_block])
    have hB : KeepB [(p1, .cells #[.int .i64 0, .int .i64 0, .string (ba ([] : Str)), .int .i64 0, .int .i64 0, .string (ba ([] : Str)), sl (⟨none, 0, 0⟩ : Sl), sl (⟨none, 0, 0⟩ : Sl)] 26 (0, 0))] h3 := hB.set 0 rfl (off := 0) rfl hh
    refine JO.p 3 [(3, .int .i64 3)] ?_
    refine JO.end_ (JC.next (JC.ret ?_))
    have H := H p1 h3 ⟨hNp1, hB.l 0⟩ hE
    have hE := Ev.refl [p1] h3
    exact JK.retG2 (.agg #[.int .i64 0, .int .i64 0, .string (ba ([] : Str)), .int .i64 0, .int .i64 0, .string (ba ([] : Str)), sl (⟨none, 0, 0⟩ : Sl), sl (⟨none, 0, 0⟩ : Sl)]) (.int .i64 3) rfl (RVal.bN p1 26 hB 0) RVal.s ⟨(⟨0, 0, ([] : Str), (⟨0, 0, ([] : Str), (⟨none, 0, 0⟩ : Sl)⟩ : V_api_Term), (⟨none, 0, 0⟩ : Sl)⟩ : V_api_Deed), 3, by kernel_rfl, H⟩
  · have H := H.2 (of_decide_eq_false hb)
    refine JC.skip (JC.next (JC.seq (JC.region ?_)))
    refine JO.p 1 [(20, .string (ba line))] ?_
    have H := H p1 h2 ⟨hNp1, hB.l 0⟩ hE
    have hE := Ev.refl [p1] h2
    have H := H hB.ltAll
    refine JO.s 1 (OpOk.c (CallH.mono H ?_ fun _ _ hx => hx))
    rintro _ h7 ⟨r4, r5, r6, rfl, hS, H⟩
    have hB := hB.same hS
    have hE := Ev.refl [p1] h7
    refine JO.p 9 [(4, .string (ba r4)), (5, .string (ba r5)), (6, .bool r6)] ?_
    refine JO.end_ (JC.next (JC.seq (JC.region ?_)))
    refine JO.p 1 [(7, .int .i64 0)] ?_
    refine JO.end_ (JC.next (JC.seq (JC.seq (JC.region ?_))))
    refine JO.p 1 [(8, .int .i64 0)] ?_
    refine JO.end_ (JC.next (JC.block ?_))
    obtain ⟨I11, μI11, hI11, H⟩ := H
    refine JC.loop (S := Int × Int) (fun s8 => [(2, .pointer (some ⟨p1, 0, none⟩)), (4, .string (ba r4)), (5, .string (ba r5)), (6, .bool r6), (7, .int .i64 s8.1), (8, .int .i64 s8.2)]) (fun s8 h' => KeepB [(p1, .cells #[.int .i64 0, .int .i64 0, .string (ba ([] : Str)), .int .i64 0, .int .i64 0, .string (ba ([] : Str)), sl (⟨none, 0, 0⟩ : Sl), sl (⟨none, 0, 0⟩ : Sl)] 26 (0, 0))] h' ∧ I11 s8 h') μI11 (0, 0) Sub.kk ⟨hB, hI11⟩ ?_
    rintro s8 h9 ⟨hB, hI⟩
    have H := H s8 h9 hI
    have hE := Ev.refl [p1] h9
    refine JC.seq (JC.seq (JC.region ?_))
    refine JO.p 1 [(25, .int .i64 s8.2)] ?_
    have H := H hB.ltAll
    refine JO.s 1 (OpOk.c (CallH.mono H ?_ fun _ _ hx => hx))
    rintro _ h13 ⟨r12, rfl, hS, H⟩
    have hB := hB.same hS
    have hE := Ev.refl [p1] h13
    refine JO.p 4 [(28, .bool (decide (s8.2 < (r12.len : Int))))] ?_
    refine JO.end_ (JC.next ?_)
    refine JC.cd (decide (s8.2 < (r12.len : Int))) (fun hb => ?_) (fun hb => ?_)
    · have H := H.1 (of_decide_eq_true hb)
      refine JC.skip (JC.next ?_)
      obtain ⟨k14, H, Hk14⟩ := H
      refine JC.join (S := Int) (fun s15 => [(2, .pointer (some ⟨p1, 0, none⟩)), (4, .string (ba r4)), (5, .string (ba r5)), (6, .bool r6), (7, .int .i64 s15), (8, .int .i64 s8.2)]) (fun s15 h' => KeepB [(p1, .cells #[.int .i64 0, .int .i64 0, .string (ba ([] : Str)), .int .i64 0, .int .i64 0, .string (ba ([] : Str)), sl (⟨none, 0, 0⟩ : Sl), sl (⟨none, 0, 0⟩ : Sl)] 26 (0, 0))] h' ∧ k14 s15 h') ?_ ?_
      · refine JC.block (JC.seq (JC.region ?_))
        have H := H hB.ltAll
        refine JO.s 0 (OpOk.c (CallH.mono H ?_ fun _ _ hx => hx))
        rintro _ h18 ⟨r17, rfl, hS, H⟩
        have hB := hB.same hS
        have hE := Ev.refl [p1] h18
        refine JO.p 2 [(32, .int .i64 s8.2)] ?_
        obtain ⟨qb20, qb20', b20, eb20, H⟩ := H
        refine JO.y 2 (Yld.ia 9 1 .i64 r17 b20 s8.2 ⟨qb20, qb20'⟩ eb20) ?_
        obtain ⟨x21, lx21, H⟩ := H
        refine JO.y 3 (Yld.le lx21) ?_
        refine JO.p 5 [(35, .string (ba r4))] ?_
        refine JO.y 5 (Yld.cp .eql x21 r4) ?_
        refine JO.end_ (JC.next ?_)
        refine JC.cd (cmpS .eql x21 r4) (fun hb => ?_) (fun hb => ?_)
        · have H := H.1 (hb)
          refine JC.region ?_
          refine JO.p 2 [(38, .int .i64 (IntKind.i64.wrap (s8.2 + 1)))] ?_
          let x22 : Int := IntKind.i64.wrap (s8.2 + 1)
          have H := H x22 rfl
          refine JO.p 3 [(7, .int .i64 x22)] ?_
          refine JO.end_ ?_
          exact JK.inv x22 Sub.kk ⟨hB, H⟩
        · have H := H.2 (hb)
          refine JC.skip ?_
          exact JK.inv s8.1 Sub.kk ⟨hB, H⟩
      · rintro s15 h16 ⟨hB, hk⟩
        have H := Hk14 s15 h16 hk
        have hE := Ev.refl [p1] h16
        refine JC.region ?_
        refine JO.p 2 [(30, .int .i64 (IntKind.i64.wrap (s8.2 + 1)))] ?_
        let x23 : Int := IntKind.i64.wrap (s8.2 + 1)
        have H := H x23 rfl
        refine JO.p 3 [(8, .int .i64 x23)] ?_
        refine JO.end_ ?_
        exact JK.inv (s15, x23) Sub.kk ⟨⟨hB, H.1⟩, H.2⟩
    · have H := H.2 (of_decide_eq_false hb)
      refine JC.exit rfl ?_
      refine JC.next (JC.seq (JC.seq (JC.region ?_)))
      refine JO.p 2 [(40, .bool (s8.1 == 0))] ?_
      refine JO.end_ (JC.next ?_)
      refine JC.cd (s8.1 == 0) (fun hb => ?_) (fun hb => ?_)
      · have H := H.1 (hb)
        refine JC.seq (JC.region ?_)
        refine JO.p 1 [(41, .agg #[.int .i64 0, .int .i64 0, .string (ba ([] : Str)), .int .i64 0, .int .i64 0, .string (ba ([] : Str)), sl (⟨none, 0, 0⟩ : Sl), sl (⟨none, 0, 0⟩ : Sl)])] ?_
        refine JO.s 1 (OpOk.st [.int .i64 0, .int .i64 0, .string (ba ([] : Str)), .int .i64 0, .int .i64 0, .string (ba ([] : Str)), sl (⟨none, 0, 0⟩ : Sl), sl (⟨none, 0, 0⟩ : Sl)] (KeepB.st hB 0 0 8) ?_)
        intro h24 hh
        have hE := hE.set hh (by simp [add_block])
        have hB : KeepB [(p1, .cells #[.int .i64 0, .int .i64 0, .string (ba ([] : Str)), .int .i64 0, .int .i64 0, .string (ba ([] : Str)), sl (⟨none, 0, 0⟩ : Sl), sl (⟨none, 0, 0⟩ : Sl)] 26 (0, 0))] h24 := hB.set 0 rfl (off := 0) rfl hh
        refine JO.p 3 [(3, .int .i64 6)] ?_
        refine JO.end_ (JC.next (JC.ret ?_))
        have H := H h24 hE
        have hE := Ev.refl [p1] h24
        exact JK.retG2 (.agg #[.int .i64 0, .int .i64 0, .string (ba ([] : Str)), .int .i64 0, .int .i64 0, .string (ba ([] : Str)), sl (⟨none, 0, 0⟩ : Sl), sl (⟨none, 0, 0⟩ : Sl)]) (.int .i64 6) rfl (RVal.bN p1 26 hB 0) RVal.s ⟨(⟨0, 0, ([] : Str), (⟨0, 0, ([] : Str), (⟨none, 0, 0⟩ : Sl)⟩ : V_api_Term), (⟨none, 0, 0⟩ : Sl)⟩ : V_api_Deed), 6, by kernel_rfl, H⟩
      · have H := H.2 (hb)
        refine JC.skip (JC.next (JC.seq (JC.seq (JC.region ?_))))
        refine JO.p 2 [(43, .bool (!r6))] ?_
        refine JO.end_ (JC.next ?_)
        refine JC.cd (!r6) (fun hb => ?_) (fun hb => ?_)
        · have H := H.1 (hb)
          refine JC.seq (JC.region ?_)
          refine JO.p 1 [(44, .agg #[.int .i64 0, .int .i64 0, .string (ba ([] : Str)), .int .i64 0, .int .i64 0, .string (ba ([] : Str)), sl (⟨none, 0, 0⟩ : Sl), sl (⟨none, 0, 0⟩ : Sl)])] ?_
          refine JO.s 1 (OpOk.st [.int .i64 0, .int .i64 0, .string (ba ([] : Str)), .int .i64 0, .int .i64 0, .string (ba ([] : Str)), sl (⟨none, 0, 0⟩ : Sl), sl (⟨none, 0, 0⟩ : Sl)] (KeepB.st hB 0 0 8) ?_)
          intro h25 hh
          have hE := hE.set hh (by simp [add_block])
          have hB : KeepB [(p1, .cells #[.int .i64 0, .int .i64 0, .string (ba ([] : Str)), .int .i64 0, .int .i64 0, .string (ba ([] : Str)), sl (⟨none, 0, 0⟩ : Sl), sl (⟨none, 0, 0⟩ : Sl)] 26 (0, 0))] h25 := hB.set 0 rfl (off := 0) rfl hh
          refine JO.p 3 [(3, .int .i64 4)] ?_
          refine JO.end_ (JC.next (JC.ret ?_))
          have H := H h25 hE
          have hE := Ev.refl [p1] h25
          exact JK.retG2 (.agg #[.int .i64 0, .int .i64 0, .string (ba ([] : Str)), .int .i64 0, .int .i64 0, .string (ba ([] : Str)), sl (⟨none, 0, 0⟩ : Sl), sl (⟨none, 0, 0⟩ : Sl)]) (.int .i64 4) rfl (RVal.bN p1 26 hB 0) RVal.s ⟨(⟨0, 0, ([] : Str), (⟨0, 0, ([] : Str), (⟨none, 0, 0⟩ : Sl)⟩ : V_api_Term), (⟨none, 0, 0⟩ : Sl)⟩ : V_api_Deed), 4, by kernel_rfl, H⟩
        · have H := H.2 (hb)
          refine JC.skip (JC.next (JC.seq (JC.region ?_)))
          refine JO.p 2 [(46, .agg #[.int .i64 s8.1, .int .i64 0, .string (ba ([] : Str)), .int .i64 0, .int .i64 0, .string (ba ([] : Str)), sl (⟨none, 0, 0⟩ : Sl), sl (⟨none, 0, 0⟩ : Sl)])] ?_
          refine JO.s 2 (OpOk.bp [.int .i64 0, .int .i64 0, .string (ba ([] : Str)), .int .i64 0, .int .i64 0, .string (ba ([] : Str)), sl (⟨none, 0, 0⟩ : Sl), sl (⟨none, 0, 0⟩ : Sl)] 26 ?_)
          intro p26 h27 hp hh
          have hNp26 : Array.size h13 ≤ p26 := hp ▸ hE.size
          have hB : KeepB [(p26, .cells #[.int .i64 0, .int .i64 0, .string (ba ([] : Str)), .int .i64 0, .int .i64 0, .string (ba ([] : Str)), sl (⟨none, 0, 0⟩ : Sl), sl (⟨none, 0, 0⟩ : Sl)] 26 (0, 0)), (p1, .cells #[.int .i64 0, .int .i64 0, .string (ba ([] : Str)), .int .i64 0, .int .i64 0, .string (ba ([] : Str)), sl (⟨none, 0, 0⟩ : Sl), sl (⟨none, 0, 0⟩ : Sl)] 26 (0, 0))] h27 := hB.push hp hh
          have hE := hE.push hp hh
          refine JO.s 3 (OpOk.st [.int .i64 s8.1, .int .i64 0, .string (ba ([] : Str)), .int .i64 0, .int .i64 0, .string (ba ([] : Str)), sl (⟨none, 0, 0⟩ : Sl), sl (⟨none, 0, 0⟩ : Sl)] (KeepB.st hB 0 0 8) ?_)
          intro h28 hh
          have hE := hE.set hh (by simp [add_block])
          have hB : KeepB [(p26, .cells #[.int .i64 s8.1, .int .i64 0, .string (ba ([] : Str)), .int .i64 0, .int .i64 0, .string (ba ([] : Str)), sl (⟨none, 0, 0⟩ : Sl), sl (⟨none, 0, 0⟩ : Sl)] 26 (0, 0)), (p1, .cells #[.int .i64 0, .int .i64 0, .string (ba ([] : Str)), .int .i64 0, .int .i64 0, .string (ba ([] : Str)), sl (⟨none, 0, 0⟩ : Sl), sl (⟨none, 0, 0⟩ : Sl)] 26 (0, 0))] h28 := hB.set 0 rfl (off := 0) rfl hh
          refine JO.p 5 [(10, .bool false)] ?_
          refine JO.end_ (JC.next ?_)
          have H := H p26 h28 ⟨hNp26, hB.l 0⟩ hE
          have hE := Ev.refl [p26, p1] h28
          obtain ⟨k29, H, Hk29⟩ := H
          refine JC.join (S := Bool × V_api_Deed) (fun s30 => [(2, .pointer (some ⟨p1, 0, none⟩)), (9, .pointer (some ⟨p26, 0, none⟩)), (10, .bool s30.1)]) (fun s30 h' => KeepB [(p26, .cells #[.int .i64 s30.2.Kind, .int .i64 s30.2.N, .string (ba s30.2.Name), .int .i64 s30.2.T.Kind, .int .i64 s30.2.T.N, .string (ba s30.2.T.S), sl s30.2.T.L, sl s30.2.L] 26 (0, 0)), (p1, .cells #[.int .i64 0, .int .i64 0, .string (ba ([] : Str)), .int .i64 0, .int .i64 0, .string (ba ([] : Str)), sl (⟨none, 0, 0⟩ : Sl), sl (⟨none, 0, 0⟩ : Sl)] 26 (0, 0))] h' ∧ k29 s30 h') ?_ ?_
          · refine JC.seq (JC.region ?_)
            refine JO.p 1 [(47, .int .i64 s8.1)] ?_
            refine JO.end_ (JC.next (JC.block (JC.seq (JC.region ?_))))
            refine JO.p 2 [(54, .bool (s8.1 == 1))] ?_
            refine JO.end_ (JC.next ?_)
            refine JC.cd (s8.1 == 1) (fun hb => ?_) (fun hb => ?_)
            · have H := H.1 (hb)
              refine JC.region ?_
              refine JO.p 1 [(57, .string (ba r5))] ?_
              have H := H hB.ltAll
              refine JO.s 1 (OpOk.c (CallH.mono H ?_ fun _ _ hx => hx))
              rintro _ h34 ⟨r32, r33, rfl, hS, H⟩
              have hB := hB.same hS
              have hE := Ev.refl [p26, p1] h34
              refine JO.p 5 [(59, .agg #[.int .i64 r32.Kind, .int .i64 r32.N, .string (ba r32.Name), .int .i64 r32.T.Kind, .int .i64 r32.T.N, .string (ba r32.T.S), sl r32.T.L, sl r32.L]), (60, .bool r33)] ?_
              refine JO.s 5 (OpOk.st [.int .i64 r32.Kind, .int .i64 r32.N, .string (ba r32.Name), .int .i64 r32.T.Kind, .int .i64 r32.T.N, .string (ba r32.T.S), sl r32.T.L, sl r32.L] (KeepB.st hB 0 0 8) ?_)
              intro h35 hh
              have hE := hE.set hh (by simp [add_block])
              have hB : KeepB [(p26, .cells #[.int .i64 r32.Kind, .int .i64 r32.N, .string (ba r32.Name), .int .i64 r32.T.Kind, .int .i64 r32.T.N, .string (ba r32.T.S), sl r32.T.L, sl r32.L] 26 (0, 0)), (p1, .cells #[.int .i64 0, .int .i64 0, .string (ba ([] : Str)), .int .i64 0, .int .i64 0, .string (ba ([] : Str)), sl (⟨none, 0, 0⟩ : Sl), sl (⟨none, 0, 0⟩ : Sl)] 26 (0, 0))] h35 := hB.set 0 rfl (off := 0) rfl hh
              refine JO.p 7 [(10, .bool r33)] ?_
              refine JO.end_ ?_
              have H := H h35 hE
              have hE := Ev.refl [p26, p1] h35
              exact JK.inv (r33, r32) Sub.kk ⟨hB, H⟩
            · have H := H.2 (hb)
              obtain ⟨k36, H, Hk36⟩ := H
              refine JC.join (S := Bool) (fun s37 => [(2, .pointer (some ⟨p1, 0, none⟩)), (5, .string (ba r5)), (9, .pointer (some ⟨p26, 0, none⟩)), (61, .bool s37)]) (fun s37 h' => KeepB [(p26, .cells #[.int .i64 s8.1, .int .i64 0, .string (ba ([] : Str)), .int .i64 0, .int .i64 0, .string (ba ([] : Str)), sl (⟨none, 0, 0⟩ : Sl), sl (⟨none, 0, 0⟩ : Sl)] 26 (0, 0)), (p1, .cells #[.int .i64 0, .int .i64 0, .string (ba ([] : Str)), .int .i64 0, .int .i64 0, .string (ba ([] : Str)), sl (⟨none, 0, 0⟩ : Sl), sl (⟨none, 0, 0⟩ : Sl)] 26 (0, 0))] h' ∧ k36 s37 h') ?_ ?_
              · refine JC.seq (JC.region ?_)
                refine JO.p 2 [(61, .bool (s8.1 == 3))] ?_
                refine JO.end_ (JC.next ?_)
                refine JC.cd (s8.1 == 3) (fun hb => ?_) (fun hb => ?_)
                · have H := H.1 (hb)
                  refine JC.skip ?_
                  exact JK.inv (s8.1 == 3) Sub.kk ⟨hB, H⟩
                · have H := H.2 (hb)
                  refine JC.region ?_
                  refine JO.p 2 [(61, .bool (s8.1 == 4))] ?_
                  refine JO.end_ ?_
                  exact JK.inv (s8.1 == 4) Sub.kk ⟨hB, H⟩
              · rintro s37 h38 ⟨hB, hk⟩
                have H := Hk36 s37 h38 hk
                have hE := Ev.refl [p26, p1] h38
                refine JC.cd s37 (fun hb => ?_) (fun hb => ?_)
                · have H := H.1 (hb)
                  refine JC.seq (JC.region ?_)
                  refine JO.p 1 [(65, .string (ba r5))] ?_
                  have H := H hB.ltAll
                  refine JO.s 1 (OpOk.c (CallH.mono H ?_ fun _ _ hx => hx))
                  rintro _ h42 ⟨r39, r40, r41, rfl, hS, H⟩
                  have hB := hB.same hS
                  have hE := Ev.refl [p26, p1] h42
                  refine JO.p 9 [(11, .string (ba r39)), (12, .string (ba r40)), (13, .bool r41)] ?_
                  refine JO.end_ (JC.next (JC.seq (JC.region ?_)))
                  refine JO.p 1 [(14, .int .i64 0)] ?_
                  refine JO.end_ (JC.next (JC.seq (JC.region ?_)))
                  refine JO.p 1 [(71, .string (ba r39))] ?_
                  have H := H hB.ltAll
                  refine JO.s 1 (OpOk.c (CallH.mono H ?_ fun _ _ hx => hx))
                  rintro _ h45 ⟨r43, r44, rfl, hS, H⟩
                  have hB := hB.same hS
                  have hE := Ev.refl [p26, p1] h45
                  refine JO.p 6 [(73, .int .i64 r43), (74, .bool r44), (75, .pointer (some ((⟨p26, 0, none⟩ : Addr).add 1)))] ?_
                  refine JO.s 6 (OpOk.st [.int .i64 r43] (KeepB.st hB 0 1 1) ?_)
                  intro h46 hh
                  have hE := hE.set hh (by simp [add_block])
                  have hB : KeepB [(p26, .cells #[.int .i64 s8.1, .int .i64 r43, .string (ba ([] : Str)), .int .i64 0, .int .i64 0, .string (ba ([] : Str)), sl (⟨none, 0, 0⟩ : Sl), sl (⟨none, 0, 0⟩ : Sl)] 26 (0, 0)), (p1, .cells #[.int .i64 0, .int .i64 0, .string (ba ([] : Str)), .int .i64 0, .int .i64 0, .string (ba ([] : Str)), sl (⟨none, 0, 0⟩ : Sl), sl (⟨none, 0, 0⟩ : Sl)] 26 (0, 0))] h46 := hB.set 0 rfl (off := 1) rfl hh
                  refine JO.p 8 [(10, .bool r44)] ?_
                  refine JO.end_ (JC.next (JC.seq (JC.region ?_)))
                  refine JO.p 1 [(77, .string (ba r40))] ?_
                  have H := H h46 hE
                  have hE := Ev.refl [p26, p1] h46
                  have H := H hB.ltAll
                  refine JO.s 1 (OpOk.c (CallH.mono H ?_ fun _ _ hx => hx))
                  rintro _ h49 ⟨r47, r48, rfl, hS, H⟩
                  have hB := hB.same hS
                  have hE := Ev.refl [p26, p1] h49
                  refine JO.p 6 [(79, .agg #[.int .i64 r47.Kind, .int .i64 r47.N, .string (ba r47.S), sl r47.L]), (80, .int .i64 r48), (81, .pointer (some ((⟨p26, 0, none⟩ : Addr).add 3)))] ?_
                  refine JO.s 6 (OpOk.st [.int .i64 r47.Kind, .int .i64 r47.N, .string (ba r47.S), sl r47.L] (KeepB.st hB 0 3 4) ?_)
                  intro h50 hh
                  have hE := hE.set hh (by simp [add_block])
                  have hB : KeepB [(p26, .cells #[.int .i64 s8.1, .int .i64 r43, .string (ba ([] : Str)), .int .i64 r47.Kind, .int .i64 r47.N, .string (ba r47.S), sl r47.L, sl (⟨none, 0, 0⟩ : Sl)] 26 (0, 0)), (p1, .cells #[.int .i64 0, .int .i64 0, .string (ba ([] : Str)), .int .i64 0, .int .i64 0, .string (ba ([] : Str)), sl (⟨none, 0, 0⟩ : Sl), sl (⟨none, 0, 0⟩ : Sl)] 26 (0, 0))] h50 := hB.set 0 rfl (off := 3) rfl hh
                  refine JO.p 8 [(14, .int .i64 r48)] ?_
                  refine JO.end_ (JC.next (JC.region ?_))
                  refine JO.p 2 [(83, .bool r44)] ?_
                  refine JO.jq 4 [(2, .pointer (some ⟨p1, 0, none⟩)), (9, .pointer (some ⟨p26, 0, none⟩)), (14, .int .i64 r48), (85, .bool (r44 && r41))] ?_ ?_
                  · refine JO.cs 83 r44 (fun hc51 => ?_) (fun hc51 => ?_)
                    · refine JO.p 4 [(85, .bool r41)] ?_
                      refine JO.end_ ?_
                      exact JK.invQ (Sub.of (by (try rw [hc51]); first | done | kernel_rfl))
                    · refine JO.p 4 [(85, .bool false)] ?_
                      refine JO.end_ ?_
                      exact JK.invQ (Sub.of (by (try rw [hc51]); first | done | kernel_rfl))
                  refine JO.p 5 [(86, .bool (r44 && r41))] ?_
                  refine JO.jq 8 [(2, .pointer (some ⟨p1, 0, none⟩)), (9, .pointer (some ⟨p26, 0, none⟩)), (89, .bool ((r44 && r41) && (r48 == 0)))] ?_ ?_
                  · refine JO.cs 86 (r44 && r41) (fun hc52 => ?_) (fun hc52 => ?_)
                    · refine JO.p 8 [(89, .bool (r48 == 0))] ?_
                      refine JO.end_ ?_
                      exact JK.invQ (Sub.of (by (try rw [hc52]); first | done | kernel_rfl))
                    · refine JO.p 8 [(89, .bool false)] ?_
                      refine JO.end_ ?_
                      exact JK.invQ (Sub.of (by (try rw [hc52]); first | done | kernel_rfl))
                  refine JO.p 9 [(10, .bool ((r44 && r41) && (r48 == 0)))] ?_
                  refine JO.end_ ?_
                  have H := H h50 hE
                  have hE := Ev.refl [p26, p1] h50
                  exact JK.inv ((r44 && r41) && (r48 == 0), (⟨s8.1, r43, ([] : Str), r47, (⟨none, 0, 0⟩ : Sl)⟩ : V_api_Deed)) Sub.kk ⟨hB, H⟩
                · have H := H.2 (hb)
                  refine JC.region ?_
                  refine JO.p 1 [(49, .string (ba r5))] ?_
                  have H := H hB.ltAll
                  refine JO.s 1 (OpOk.c (CallH.mono H ?_ fun _ _ hx => hx))
                  rintro _ h55 ⟨r53, r54, rfl, hS, H⟩
                  have hB := hB.same hS
                  have hE := Ev.refl [p26, p1] h55
                  refine JO.p 6 [(51, .int .i64 r53), (52, .bool r54), (53, .pointer (some ((⟨p26, 0, none⟩ : Addr).add 1)))] ?_
                  refine JO.s 6 (OpOk.st [.int .i64 r53] (KeepB.st hB 0 1 1) ?_)
                  intro h56 hh
                  have hE := hE.set hh (by simp [add_block])
                  have hB : KeepB [(p26, .cells #[.int .i64 s8.1, .int .i64 r53, .string (ba ([] : Str)), .int .i64 0, .int .i64 0, .string (ba ([] : Str)), sl (⟨none, 0, 0⟩ : Sl), sl (⟨none, 0, 0⟩ : Sl)] 26 (0, 0)), (p1, .cells #[.int .i64 0, .int .i64 0, .string (ba ([] : Str)), .int .i64 0, .int .i64 0, .string (ba ([] : Str)), sl (⟨none, 0, 0⟩ : Sl), sl (⟨none, 0, 0⟩ : Sl)] 26 (0, 0))] h56 := hB.set 0 rfl (off := 1) rfl hh
                  refine JO.p 8 [(10, .bool r54)] ?_
                  refine JO.end_ ?_
                  have H := H h56 hE
                  have hE := Ev.refl [p26, p1] h56
                  exact JK.inv (r54, (⟨s8.1, r53, ([] : Str), (⟨0, 0, ([] : Str), (⟨none, 0, 0⟩ : Sl)⟩ : V_api_Term), (⟨none, 0, 0⟩ : Sl)⟩ : V_api_Deed)) Sub.kk ⟨hB, H⟩
          · rintro s30 h31 ⟨hB, hk⟩
            have H := Hk29 s30 h31 hk
            have hE := Ev.refl [p26, p1] h31
            refine JC.seq (JC.seq (JC.region ?_))
            refine JO.p 2 [(91, .bool (!s30.1))] ?_
            refine JO.end_ (JC.next ?_)
            refine JC.cd (!s30.1) (fun hb => ?_) (fun hb => ?_)
            · have H := H.1 (hb)
              refine JC.seq (JC.region ?_)
              refine JO.p 1 [(92, .agg #[.int .i64 0, .int .i64 0, .string (ba ([] : Str)), .int .i64 0, .int .i64 0, .string (ba ([] : Str)), sl (⟨none, 0, 0⟩ : Sl), sl (⟨none, 0, 0⟩ : Sl)])] ?_
              refine JO.s 1 (OpOk.st [.int .i64 0, .int .i64 0, .string (ba ([] : Str)), .int .i64 0, .int .i64 0, .string (ba ([] : Str)), sl (⟨none, 0, 0⟩ : Sl), sl (⟨none, 0, 0⟩ : Sl)] (KeepB.st hB 1 0 8) ?_)
              intro h57 hh
              have hE := hE.set hh (by simp [add_block])
              have hB : KeepB [(p26, .cells #[.int .i64 s30.2.Kind, .int .i64 s30.2.N, .string (ba s30.2.Name), .int .i64 s30.2.T.Kind, .int .i64 s30.2.T.N, .string (ba s30.2.T.S), sl s30.2.T.L, sl s30.2.L] 26 (0, 0)), (p1, .cells #[.int .i64 0, .int .i64 0, .string (ba ([] : Str)), .int .i64 0, .int .i64 0, .string (ba ([] : Str)), sl (⟨none, 0, 0⟩ : Sl), sl (⟨none, 0, 0⟩ : Sl)] 26 (0, 0))] h57 := hB.set 1 rfl (off := 0) rfl hh
              refine JO.p 3 [(3, .int .i64 4)] ?_
              refine JO.end_ (JC.next (JC.ret ?_))
              have H := H h57 hE
              have hE := Ev.refl [p26, p1] h57
              exact JK.retG2 (.agg #[.int .i64 0, .int .i64 0, .string (ba ([] : Str)), .int .i64 0, .int .i64 0, .string (ba ([] : Str)), sl (⟨none, 0, 0⟩ : Sl), sl (⟨none, 0, 0⟩ : Sl)]) (.int .i64 4) rfl (RVal.bN p1 26 hB 1) RVal.s ⟨(⟨0, 0, ([] : Str), (⟨0, 0, ([] : Str), (⟨none, 0, 0⟩ : Sl)⟩ : V_api_Term), (⟨none, 0, 0⟩ : Sl)⟩ : V_api_Deed), 4, by kernel_rfl, H⟩
            · have H := H.2 (hb)
              refine JC.skip (JC.next (JC.seq (JC.region ?_)))
              refine JO.y 0 (Yld.lne (KeepB.c hB 0 0 [.int .i64 s30.2.Kind, .int .i64 s30.2.N, .string (ba s30.2.Name), .int .i64 s30.2.T.Kind, .int .i64 s30.2.T.N, .string (ba s30.2.T.S), sl s30.2.T.L, sl s30.2.L])) ?_
              refine JO.s 1 (OpOk.st [.int .i64 s30.2.Kind, .int .i64 s30.2.N, .string (ba s30.2.Name), .int .i64 s30.2.T.Kind, .int .i64 s30.2.T.N, .string (ba s30.2.T.S), sl s30.2.T.L, sl s30.2.L] (KeepB.st hB 1 0 8) ?_)
              intro h58 hh
              have hE := hE.set hh (by simp [add_block])
              have hB : KeepB [(p26, .cells #[.int .i64 s30.2.Kind, .int .i64 s30.2.N, .string (ba s30.2.Name), .int .i64 s30.2.T.Kind, .int .i64 s30.2.T.N, .string (ba s30.2.T.S), sl s30.2.T.L, sl s30.2.L] 26 (0, 0)), (p1, .cells #[.int .i64 s30.2.Kind, .int .i64 s30.2.N, .string (ba s30.2.Name), .int .i64 s30.2.T.Kind, .int .i64 s30.2.T.N, .string (ba s30.2.T.S), sl s30.2.T.L, sl s30.2.L] 26 (0, 0))] h58 := hB.set 1 rfl (off := 0) rfl hh
              refine JO.p 3 [(3, .int .i64 0)] ?_
              refine JO.end_ (JC.next (JC.ret ?_))
              have H := H h58 hE
              have hE := Ev.refl [p26, p1] h58
              exact JK.retG2 (.agg #[.int .i64 s30.2.Kind, .int .i64 s30.2.N, .string (ba s30.2.Name), .int .i64 s30.2.T.Kind, .int .i64 s30.2.T.N, .string (ba s30.2.T.S), sl s30.2.T.L, sl s30.2.L]) (.int .i64 0) rfl (RVal.bN p1 26 hB 1) RVal.s ⟨s30.2, 0, by kernel_rfl, H⟩

def F_tenurelaw31_same.body (a : V_api_Deed) (b : V_api_Deed) (h : Hp) (K : Bool → Hp → Prop) (X : Chain → Hp → Prop) : Prop :=
∀ (p1 : Nat) (p3 : Nat) (h4 : Hp), New p1 h h4 → New p3 h h4 → Ev [p3, p1] h h4 → JoinW (fun (k7 : Bool → Hp → Prop) =>
((((a.Kind == b.Kind) && (a.N == b.N)) && (cmpS .eql a.Name b.Name)) = true → (LtAll [p3, p1] h4 → F_tenurekit_SameTerm.call a.T b.T h4 (fun (r11 : Bool) (h12 : Hp) => SameOn [p3, p1] h4 h12 ∧ k7 r11 h12) X)) ∧
((((a.Kind == b.Kind) && (a.N == b.N)) && (cmpS .eql a.Name b.Name)) = false → k7 false h4)) (fun (y8 : Bool) h9 =>
JoinW (fun (k13 : Bool → Hp → Prop) =>
(y8 = true → (LtAll [p3, p1] h9 → F_tenurekit_SameTerms.call a.L b.L h9 (fun (r17 : Bool) (h18 : Hp) => SameOn [p3, p1] h9 h18 ∧ k13 r17 h18) X)) ∧
(y8 = false → k13 false h9)) (fun (y14 : Bool) h15 =>
K y14 h15))
theorem F_tenurelaw31_same.sound {a : V_api_Deed} {b : V_api_Deed} {h : Hp} {K : Bool → Hp → Prop} {X : Chain → Hp → Prop} (H : F_tenurelaw31_same.body a b h K X) : F_tenurelaw31_same.call a b h K X := by
  unfold F_tenurelaw31_same.body at H
  refine CallH.of Tryz.func10 rfl rfl fun w0 hw0 => ?_
  refine JC.seq (JC.region ?_)
  refine JO.s 0 (OpOk.bp [.int .i64 a.Kind, .int .i64 a.N, .string (ba a.Name), .int .i64 a.T.Kind, .int .i64 a.T.N, .string (ba a.T.S), sl a.T.L, sl a.L] 26 ?_)
  intro p1 h2 hp hh
  have hE := Ev.refl [] h
  have hB := KeepB.nil h
  have hNp1 : Array.size h ≤ p1 := hp ▸ hE.size
  have hB : KeepB [(p1, .cells #[.int .i64 a.Kind, .int .i64 a.N, .string (ba a.Name), .int .i64 a.T.Kind, .int .i64 a.T.N, .string (ba a.T.S), sl a.T.L, sl a.L] 26 (0, 0))] h2 := hB.push hp hh
  have hE := hE.push hp hh
  refine JO.s 1 (OpOk.bp [.int .i64 b.Kind, .int .i64 b.N, .string (ba b.Name), .int .i64 b.T.Kind, .int .i64 b.T.N, .string (ba b.T.S), sl b.T.L, sl b.L] 26 ?_)
  intro p3 h4 hp hh
  have hNp3 : Array.size h ≤ p3 := hp ▸ hE.size
  have hB : KeepB [(p3, .cells #[.int .i64 b.Kind, .int .i64 b.N, .string (ba b.Name), .int .i64 b.T.Kind, .int .i64 b.T.N, .string (ba b.T.S), sl b.T.L, sl b.L] 26 (0, 0)), (p1, .cells #[.int .i64 a.Kind, .int .i64 a.N, .string (ba a.Name), .int .i64 a.T.Kind, .int .i64 a.T.N, .string (ba a.T.S), sl a.T.L, sl a.L] 26 (0, 0))] h4 := hB.push hp hh
  have hE := hE.push hp hh
  refine JO.p 3 [(4, .bool false)] ?_
  refine JO.end_ (JC.next (JC.seq (JC.region ?_)))
  refine JO.p 1 [(5, .pointer (some ((⟨p1, 0, none⟩ : Addr).add 0)))] ?_
  refine JO.y 1 (Yld.le (KeepB.c hB 1 0 [.int .i64 a.Kind])) ?_
  refine JO.p 3 [(7, .pointer (some ((⟨p3, 0, none⟩ : Addr).add 0)))] ?_
  refine JO.y 3 (Yld.le (KeepB.c hB 0 0 [.int .i64 b.Kind])) ?_
  refine JO.p 6 [(10, .bool (a.Kind == b.Kind))] ?_
  refine JO.jq 12 [(2, .pointer (some ⟨p1, 0, none⟩)), (3, .pointer (some ⟨p3, 0, none⟩)), (16, .bool ((a.Kind == b.Kind) && (a.N == b.N)))] ?_ ?_
  · refine JO.cs 10 (a.Kind == b.Kind) (fun hc5 => ?_) (fun hc5 => ?_)
    · refine JO.p 7 [(11, .pointer (some ((⟨p1, 0, none⟩ : Addr).add 1)))] ?_
      refine JO.y 7 (Yld.le (KeepB.c hB 1 1 [.int .i64 a.N])) ?_
      refine JO.p 9 [(13, .pointer (some ((⟨p3, 0, none⟩ : Addr).add 1)))] ?_
      refine JO.y 9 (Yld.le (KeepB.c hB 0 1 [.int .i64 b.N])) ?_
      refine JO.p 12 [(16, .bool (a.N == b.N))] ?_
      refine JO.end_ ?_
      exact JK.invQ (Sub.of (by (try rw [hc5]); first | done | kernel_rfl))
    · refine JO.p 12 [(16, .bool false)] ?_
      refine JO.end_ ?_
      exact JK.invQ (Sub.of (by (try rw [hc5]); first | done | kernel_rfl))
  refine JO.p 13 [(17, .bool ((a.Kind == b.Kind) && (a.N == b.N)))] ?_
  refine JO.jq 19 [(2, .pointer (some ⟨p1, 0, none⟩)), (3, .pointer (some ⟨p3, 0, none⟩)), (23, .bool (((a.Kind == b.Kind) && (a.N == b.N)) && (cmpS .eql a.Name b.Name)))] ?_ ?_
  · refine JO.cs 17 ((a.Kind == b.Kind) && (a.N == b.N)) (fun hc6 => ?_) (fun hc6 => ?_)
    · refine JO.p 14 [(18, .pointer (some ((⟨p1, 0, none⟩ : Addr).add 2)))] ?_
      refine JO.y 14 (Yld.le (KeepB.c hB 1 2 [.string (ba a.Name)])) ?_
      refine JO.p 16 [(20, .pointer (some ((⟨p3, 0, none⟩ : Addr).add 2)))] ?_
      refine JO.y 16 (Yld.le (KeepB.c hB 0 2 [.string (ba b.Name)])) ?_
      refine JO.y 17 (Yld.cp .eql a.Name b.Name) ?_
      refine JO.p 19 [(23, .bool (cmpS .eql a.Name b.Name))] ?_
      refine JO.end_ ?_
      exact JK.invQ (Sub.of (by (try rw [hc6]); first | done | kernel_rfl))
    · refine JO.p 19 [(23, .bool false)] ?_
      refine JO.end_ ?_
      exact JK.invQ (Sub.of (by (try rw [hc6]); first | done | kernel_rfl))
  refine JO.p 20 [(24, .bool (((a.Kind == b.Kind) && (a.N == b.N)) && (cmpS .eql a.Name b.Name)))] ?_
  have H := H p1 p3 h4 ⟨hNp1, hB.l 1⟩ ⟨hNp3, hB.l 0⟩ hE
  have hE := Ev.refl [p3, p1] h4
  obtain ⟨k7, H, Hk7⟩ := H
  refine JO.jn (S := Bool) 26 (fun y8 => [(2, .pointer (some ⟨p1, 0, none⟩)), (3, .pointer (some ⟨p3, 0, none⟩)), (30, .bool y8)]) (fun y8 h' => KeepB [(p3, .cells #[.int .i64 b.Kind, .int .i64 b.N, .string (ba b.Name), .int .i64 b.T.Kind, .int .i64 b.T.N, .string (ba b.T.S), sl b.T.L, sl b.L] 26 (0, 0)), (p1, .cells #[.int .i64 a.Kind, .int .i64 a.N, .string (ba a.Name), .int .i64 a.T.Kind, .int .i64 a.T.N, .string (ba a.T.S), sl a.T.L, sl a.L] 26 (0, 0))] h' ∧ k7 y8 h') ?_ ?_
  · refine JO.cs 24 (((a.Kind == b.Kind) && (a.N == b.N)) && (cmpS .eql a.Name b.Name)) (fun hc10 => ?_) (fun hc10 => ?_)
    · have H := H.1 (hc10)
      refine JO.p 21 [(25, .pointer (some ((⟨p1, 0, none⟩ : Addr).add 3)))] ?_
      refine JO.y 21 (Yld.lne (KeepB.c hB 1 3 [.int .i64 a.T.Kind, .int .i64 a.T.N, .string (ba a.T.S), sl a.T.L])) ?_
      refine JO.p 23 [(27, .pointer (some ((⟨p3, 0, none⟩ : Addr).add 3)))] ?_
      refine JO.y 23 (Yld.lne (KeepB.c hB 0 3 [.int .i64 b.T.Kind, .int .i64 b.T.N, .string (ba b.T.S), sl b.T.L])) ?_
      have H := H hB.ltAll
      refine JO.s 24 (OpOk.c (CallH.mono H ?_ fun _ _ hx => hx))
      rintro _ h12 ⟨r11, rfl, hS, H⟩
      have hB := hB.same hS
      have hE := Ev.refl [p3, p1] h12
      refine JO.p 26 [(30, .bool r11)] ?_
      refine JO.end_ ?_
      exact JK.inv r11 (Sub.of (by (try rw [hc10]); first | done | kernel_rfl)) ⟨hB, H⟩
    · have H := H.2 (hc10)
      refine JO.p 26 [(30, .bool false)] ?_
      refine JO.end_ ?_
      exact JK.inv false (Sub.of (by (try rw [hc10]); first | done | kernel_rfl)) ⟨hB, H⟩
  rintro y8 h9 ⟨hB, hk⟩
  have H := Hk7 y8 h9 hk
  have hE := Ev.refl [p3, p1] h9
  refine JO.p 27 [(31, .bool y8)] ?_
  obtain ⟨k13, H, Hk13⟩ := H
  refine JO.jn (S := Bool) 33 (fun y14 => [(37, .bool y14)]) (fun y14 h' => KeepB [(p3, .cells #[.int .i64 b.Kind, .int .i64 b.N, .string (ba b.Name), .int .i64 b.T.Kind, .int .i64 b.T.N, .string (ba b.T.S), sl b.T.L, sl b.L] 26 (0, 0)), (p1, .cells #[.int .i64 a.Kind, .int .i64 a.N, .string (ba a.Name), .int .i64 a.T.Kind, .int .i64 a.T.N, .string (ba a.T.S), sl a.T.L, sl a.L] 26 (0, 0))] h' ∧ k13 y14 h') ?_ ?_
  · refine JO.cs 31 y8 (fun hc16 => ?_) (fun hc16 => ?_)
    · have H := H.1 (hc16)
      refine JO.p 28 [(32, .pointer (some ((⟨p1, 0, none⟩ : Addr).add 7)))] ?_
      refine JO.y 28 (Yld.le (KeepB.c hB 1 7 [sl a.L])) ?_
      refine JO.p 30 [(34, .pointer (some ((⟨p3, 0, none⟩ : Addr).add 7)))] ?_
      refine JO.y 30 (Yld.le (KeepB.c hB 0 7 [sl b.L])) ?_
      have H := H hB.ltAll
      refine JO.s 31 (OpOk.c (CallH.mono H ?_ fun _ _ hx => hx))
      rintro _ h18 ⟨r17, rfl, hS, H⟩
      have hB := hB.same hS
      have hE := Ev.refl [p3, p1] h18
      refine JO.p 33 [(37, .bool r17)] ?_
      refine JO.end_ ?_
      exact JK.inv r17 (Sub.of (by (try rw [hc16]); first | done | kernel_rfl)) ⟨hB, H⟩
    · have H := H.2 (hc16)
      refine JO.p 33 [(37, .bool false)] ?_
      refine JO.end_ ?_
      exact JK.inv false (Sub.of (by (try rw [hc16]); first | done | kernel_rfl)) ⟨hB, H⟩
  rintro y14 h15 ⟨hB, hk⟩
  have H := Hk13 y14 h15 hk
  have hE := Ev.refl [p3, p1] h15
  refine JO.p 34 [(4, .bool y14)] ?_
  refine JO.end_ (JC.next (JC.ret ?_))
  exact JK.retG1 (.bool y14) rfl RVal.s ⟨y14, by kernel_rfl, H⟩

def F_tenurelaw31_awake.body  (h : Hp) (K : Bool → Hp → Prop) (X : Chain → Hp → Prop) : Prop :=
F_tenurekit_I.call 1 h (fun (r1 : V_api_Term) (h2 : Hp) => F_tenurekit_A.call ([97] : Str) h2 (fun (r3 : V_api_Term) (h4 : Hp) => AllocW h4 24 [.int .i64 r1.Kind, .int .i64 r1.N, .string (ba r1.S), sl r1.L, .int .i64 r3.Kind, .int .i64 r3.N, .string (ba r3.S), sl r3.L] (fun (p5 : Nat) (h6 : Hp) => F_tenurelaw31_parses.call ([115, 112, 97, 119, 110, 32, 102, 32, 91, 49, 44, 97, 93] : Str) (⟨1, 0, ([102] : Str), (⟨0, 0, ([] : Str), (⟨none, 0, 0⟩ : Sl)⟩ : V_api_Term), (⟨some ⟨p5, 0, none⟩, 2, 2⟩ : Sl)⟩ : V_api_Deed) h6 (fun (r7 : Bool) (h8 : Hp) => JoinW (fun (k9 : Bool → Hp → Prop) =>
(r7 = true → F_tenurekit_A.call ([120, 32, 121] : Str) h8 (fun (r13 : V_api_Term) (h14 : Hp) => F_tenurelaw31_parses.call ([115, 101, 110, 100, 32, 50, 32, 39, 120, 32, 121, 39] : Str) (⟨3, 2, ([] : Str), r13, (⟨none, 0, 0⟩ : Sl)⟩ : V_api_Deed) h14 (fun (r15 : Bool) (h16 : Hp) => k9 r15 h16) X) X) ∧
(r7 = false → k9 false h8)) (fun (y10 : Bool) h11 =>
JoinW (fun (k17 : Bool → Hp → Prop) =>
(y10 = true → F_tenurelaw31_refused.call ([115, 112, 97, 119, 110, 32, 102] : Str) 4 h11 (fun (r21 : Bool) (h22 : Hp) => k17 r21 h22) X) ∧
(y10 = false → k17 false h11)) (fun (y18 : Bool) h19 =>
JoinW (fun (k23 : Bool → Hp → Prop) =>
(y18 = true → F_tenurelaw31_refused.call ([106, 117, 109, 112, 32, 49] : Str) 6 h19 (fun (r27 : Bool) (h28 : Hp) => k23 r27 h28) X) ∧
(y18 = false → k23 false h19)) (fun (y24 : Bool) h25 =>
K y24 h25)))) X)) X) X
theorem F_tenurelaw31_awake.sound  {h : Hp} {K : Bool → Hp → Prop} {X : Chain → Hp → Prop} (H : F_tenurelaw31_awake.body  h K X) : F_tenurelaw31_awake.call  h K X := by
  unfold F_tenurelaw31_awake.body at H
  refine CallH.of Tryz.func11 rfl rfl fun w0 hw0 => ?_
  refine JC.seq (JC.region ?_)
  refine JO.p 1 [(0, .bool false)] ?_
  refine JO.end_ (JC.next (JC.seq (JC.region ?_)))
  refine JO.s 0 (OpOk.c (CallH.mono H ?_ fun _ _ hx => hx))
  rintro _ h2 ⟨r1, rfl, H⟩
  refine JO.s 1 (OpOk.c (CallH.mono H ?_ fun _ _ hx => hx))
  rintro _ h4 ⟨r3, rfl, H⟩
  refine JO.s 2 (OpOk.bs 2 [.int .i64 r1.Kind, .int .i64 r1.N, .string (ba r1.S), sl r1.L, .int .i64 r3.Kind, .int .i64 r3.N, .string (ba r3.S), sl r3.L] 24 ?_)
  intro p5 h6 hp hh
  have H := H p5 h6 hp hh
  refine JO.p 4 [(5, .agg #[.int .i64 1, .int .i64 0, .string (ba ([102] : Str)), .int .i64 0, .int .i64 0, .string (ba ([] : Str)), sl (⟨none, 0, 0⟩ : Sl), sl (⟨some ⟨p5, 0, none⟩, 2, 2⟩ : Sl)])] ?_
  refine JO.s 4 (OpOk.c (CallH.mono H ?_ fun _ _ hx => hx))
  rintro _ h8 ⟨r7, rfl, H⟩
  refine JO.p 6 [(1, .bool r7)] ?_
  refine JO.end_ (JC.next (JC.seq (JC.region ?_)))
  refine JO.p 2 [(8, .bool r7)] ?_
  obtain ⟨k9, H, Hk9⟩ := H
  refine JO.jn (S := Bool) 6 (fun y10 => [(12, .bool y10)]) (fun y10 h' => KeepB [] h' ∧ k9 y10 h') ?_ ?_
  · refine JO.cs 8 r7 (fun hc12 => ?_) (fun hc12 => ?_)
    · have H := H.1 (hc12)
      refine JO.s 2 (OpOk.c (CallH.mono H ?_ fun _ _ hx => hx))
      rintro _ h14 ⟨r13, rfl, H⟩
      refine JO.p 4 [(10, .agg #[.int .i64 3, .int .i64 2, .string (ba ([] : Str)), .int .i64 r13.Kind, .int .i64 r13.N, .string (ba r13.S), sl r13.L, sl (⟨none, 0, 0⟩ : Sl)])] ?_
      refine JO.s 4 (OpOk.c (CallH.mono H ?_ fun _ _ hx => hx))
      rintro _ h16 ⟨r15, rfl, H⟩
      refine JO.p 6 [(12, .bool r15)] ?_
      refine JO.end_ ?_
      exact JK.inv r15 (Sub.of (by (try rw [hc12]); first | done | kernel_rfl)) ⟨KeepB.nil _, H⟩
    · have H := H.2 (hc12)
      refine JO.p 6 [(12, .bool false)] ?_
      refine JO.end_ ?_
      exact JK.inv false (Sub.of (by (try rw [hc12]); first | done | kernel_rfl)) ⟨KeepB.nil _, H⟩
  rintro y10 h11 ⟨hB, hk⟩
  have H := Hk9 y10 h11 hk
  have hE := Ev.refl [] h11
  refine JO.p 7 [(13, .bool y10)] ?_
  obtain ⟨k17, H, Hk17⟩ := H
  refine JO.jn (S := Bool) 9 (fun y18 => [(15, .bool y18)]) (fun y18 h' => KeepB [] h' ∧ k17 y18 h') ?_ ?_
  · refine JO.cs 13 y10 (fun hc20 => ?_) (fun hc20 => ?_)
    · have H := H.1 (hc20)
      refine JO.s 7 (OpOk.c (CallH.mono H ?_ fun _ _ hx => hx))
      rintro _ h22 ⟨r21, rfl, H⟩
      refine JO.p 9 [(15, .bool r21)] ?_
      refine JO.end_ ?_
      exact JK.inv r21 (Sub.of (by (try rw [hc20]); first | done | kernel_rfl)) ⟨KeepB.nil _, H⟩
    · have H := H.2 (hc20)
      refine JO.p 9 [(15, .bool false)] ?_
      refine JO.end_ ?_
      exact JK.inv false (Sub.of (by (try rw [hc20]); first | done | kernel_rfl)) ⟨KeepB.nil _, H⟩
  rintro y18 h19 ⟨hB, hk⟩
  have H := Hk17 y18 h19 hk
  have hE := Ev.refl [] h19
  refine JO.p 10 [(16, .bool y18)] ?_
  obtain ⟨k23, H, Hk23⟩ := H
  refine JO.jn (S := Bool) 12 (fun y24 => [(18, .bool y24)]) (fun y24 h' => KeepB [] h' ∧ k23 y24 h') ?_ ?_
  · refine JO.cs 16 y18 (fun hc26 => ?_) (fun hc26 => ?_)
    · have H := H.1 (hc26)
      refine JO.s 10 (OpOk.c (CallH.mono H ?_ fun _ _ hx => hx))
      rintro _ h28 ⟨r27, rfl, H⟩
      refine JO.p 12 [(18, .bool r27)] ?_
      refine JO.end_ ?_
      exact JK.inv r27 (Sub.of (by (try rw [hc26]); first | done | kernel_rfl)) ⟨KeepB.nil _, H⟩
    · have H := H.2 (hc26)
      refine JO.p 12 [(18, .bool false)] ?_
      refine JO.end_ ?_
      exact JK.inv false (Sub.of (by (try rw [hc26]); first | done | kernel_rfl)) ⟨KeepB.nil _, H⟩
  rintro y24 h25 ⟨hB, hk⟩
  have H := Hk23 y24 h25 hk
  have hE := Ev.refl [] h25
  refine JO.p 13 [(0, .bool y24)] ?_
  refine JO.end_ (JC.next (JC.ret ?_))
  exact JK.retG1 (.bool y24) rfl RVal.s ⟨y24, by kernel_rfl, H⟩

def F_tenurelaw31_parses.body (line : Str) (x : V_api_Deed) (h : Hp) (K : Bool → Hp → Prop) (X : Chain → Hp → Prop) : Prop :=
∀ (p1 : Nat) (h2 : Hp), New p1 h h2 → Ev [p1] h h2 → (LtAll [p1] h2 → F_script_Parse.call line h2 (fun (r3 : V_api_Deed) (r4 : Int) (h5 : Hp) => SameOn [p1] h2 h5 ∧ ∀ (p6 : Nat) (h8 : Hp), New p6 h5 h8 → Ev [p6, p1] h5 h8 → JoinW (fun (k9 : Bool → Hp → Prop) =>
((r4 == 0) = true → (LtAll [p6, p1] h8 → F_tenurelaw31_same.call r3 x h8 (fun (r13 : Bool) (h14 : Hp) => SameOn [p6, p1] h8 h14 ∧ k9 r13 h14) X)) ∧
((r4 == 0) = false → k9 false h8)) (fun (y10 : Bool) h11 =>
K y10 h11)) X)
theorem F_tenurelaw31_parses.sound {line : Str} {x : V_api_Deed} {h : Hp} {K : Bool → Hp → Prop} {X : Chain → Hp → Prop} (H : F_tenurelaw31_parses.body line x h K X) : F_tenurelaw31_parses.call line x h K X := by
  unfold F_tenurelaw31_parses.body at H
  refine CallH.of Tryz.func19 rfl rfl fun w0 hw0 => ?_
  refine JC.seq (JC.region ?_)
  refine JO.s 0 (OpOk.bp [.int .i64 x.Kind, .int .i64 x.N, .string (ba x.Name), .int .i64 x.T.Kind, .int .i64 x.T.N, .string (ba x.T.S), sl x.T.L, sl x.L] 26 ?_)
  intro p1 h2 hp hh
  have hE := Ev.refl [] h
  have hB := KeepB.nil h
  have hNp1 : Array.size h ≤ p1 := hp ▸ hE.size
  have hB : KeepB [(p1, .cells #[.int .i64 x.Kind, .int .i64 x.N, .string (ba x.Name), .int .i64 x.T.Kind, .int .i64 x.T.N, .string (ba x.T.S), sl x.T.L, sl x.L] 26 (0, 0))] h2 := hB.push hp hh
  have hE := hE.push hp hh
  refine JO.p 2 [(4, .bool false)] ?_
  refine JO.end_ (JC.next (JC.seq (JC.region ?_)))
  refine JO.p 1 [(8, .string (ba line))] ?_
  have H := H p1 h2 ⟨hNp1, hB.l 0⟩ hE
  have hE := Ev.refl [p1] h2
  have H := H hB.ltAll
  refine JO.s 1 (OpOk.c (CallH.mono H ?_ fun _ _ hx => hx))
  rintro _ h5 ⟨r3, r4, rfl, hS, H⟩
  have hB := hB.same hS
  have hE := Ev.refl [p1] h5
  refine JO.p 5 [(10, .agg #[.int .i64 r3.Kind, .int .i64 r3.N, .string (ba r3.Name), .int .i64 r3.T.Kind, .int .i64 r3.T.N, .string (ba r3.T.S), sl r3.T.L, sl r3.L]), (11, .int .i64 r4)] ?_
  refine JO.s 5 (OpOk.bp [.int .i64 0, .int .i64 0, .string (ba ([] : Str)), .int .i64 0, .int .i64 0, .string (ba ([] : Str)), sl (⟨none, 0, 0⟩ : Sl), sl (⟨none, 0, 0⟩ : Sl)] 26 ?_)
  intro p6 h7 hp hh
  have hNp6 : Array.size h5 ≤ p6 := hp ▸ hE.size
  have hB : KeepB [(p6, .cells #[.int .i64 0, .int .i64 0, .string (ba ([] : Str)), .int .i64 0, .int .i64 0, .string (ba ([] : Str)), sl (⟨none, 0, 0⟩ : Sl), sl (⟨none, 0, 0⟩ : Sl)] 26 (0, 0)), (p1, .cells #[.int .i64 x.Kind, .int .i64 x.N, .string (ba x.Name), .int .i64 x.T.Kind, .int .i64 x.T.N, .string (ba x.T.S), sl x.T.L, sl x.L] 26 (0, 0))] h7 := hB.push hp hh
  have hE := hE.push hp hh
  refine JO.s 6 (OpOk.st [.int .i64 r3.Kind, .int .i64 r3.N, .string (ba r3.Name), .int .i64 r3.T.Kind, .int .i64 r3.T.N, .string (ba r3.T.S), sl r3.T.L, sl r3.L] (KeepB.st hB 0 0 8) ?_)
  intro h8 hh
  have hE := hE.set hh (by simp [add_block])
  have hB : KeepB [(p6, .cells #[.int .i64 r3.Kind, .int .i64 r3.N, .string (ba r3.Name), .int .i64 r3.T.Kind, .int .i64 r3.T.N, .string (ba r3.T.S), sl r3.T.L, sl r3.L] 26 (0, 0)), (p1, .cells #[.int .i64 x.Kind, .int .i64 x.N, .string (ba x.Name), .int .i64 x.T.Kind, .int .i64 x.T.N, .string (ba x.T.S), sl x.T.L, sl x.L] 26 (0, 0))] h8 := hB.set 0 rfl (off := 0) rfl hh
  refine JO.p 8 [(6, .int .i64 r4)] ?_
  refine JO.end_ (JC.next (JC.seq (JC.region ?_)))
  refine JO.p 3 [(14, .bool (r4 == 0))] ?_
  have H := H p6 h8 ⟨hNp6, hB.l 0⟩ hE
  have hE := Ev.refl [p6, p1] h8
  obtain ⟨k9, H, Hk9⟩ := H
  refine JO.jn (S := Bool) 7 (fun y10 => [(18, .bool y10)]) (fun y10 h' => KeepB [(p6, .cells #[.int .i64 r3.Kind, .int .i64 r3.N, .string (ba r3.Name), .int .i64 r3.T.Kind, .int .i64 r3.T.N, .string (ba r3.T.S), sl r3.T.L, sl r3.L] 26 (0, 0)), (p1, .cells #[.int .i64 x.Kind, .int .i64 x.N, .string (ba x.Name), .int .i64 x.T.Kind, .int .i64 x.T.N, .string (ba x.T.S), sl x.T.L, sl x.L] 26 (0, 0))] h' ∧ k9 y10 h') ?_ ?_
  · refine JO.cs 14 (r4 == 0) (fun hc12 => ?_) (fun hc12 => ?_)
    · have H := H.1 (hc12)
      refine JO.y 3 (Yld.lne (KeepB.c hB 0 0 [.int .i64 r3.Kind, .int .i64 r3.N, .string (ba r3.Name), .int .i64 r3.T.Kind, .int .i64 r3.T.N, .string (ba r3.T.S), sl r3.T.L, sl r3.L])) ?_
      refine JO.y 4 (Yld.lne (KeepB.c hB 1 0 [.int .i64 x.Kind, .int .i64 x.N, .string (ba x.Name), .int .i64 x.T.Kind, .int .i64 x.T.N, .string (ba x.T.S), sl x.T.L, sl x.L])) ?_
      have H := H hB.ltAll
      refine JO.s 5 (OpOk.c (CallH.mono H ?_ fun _ _ hx => hx))
      rintro _ h14 ⟨r13, rfl, hS, H⟩
      have hB := hB.same hS
      have hE := Ev.refl [p6, p1] h14
      refine JO.p 7 [(18, .bool r13)] ?_
      refine JO.end_ ?_
      exact JK.inv r13 (Sub.of (by (try rw [hc12]); first | done | kernel_rfl)) ⟨hB, H⟩
    · have H := H.2 (hc12)
      refine JO.p 7 [(18, .bool false)] ?_
      refine JO.end_ ?_
      exact JK.inv false (Sub.of (by (try rw [hc12]); first | done | kernel_rfl)) ⟨hB, H⟩
  rintro y10 h11 ⟨hB, hk⟩
  have H := Hk9 y10 h11 hk
  have hE := Ev.refl [p6, p1] h11
  refine JO.p 8 [(4, .bool y10)] ?_
  refine JO.end_ (JC.next (JC.ret ?_))
  exact JK.retG1 (.bool y10) rfl RVal.s ⟨y10, by kernel_rfl, H⟩

def F_script_words.body  (h : Hp) (K : (Option Nat) → Hp → Prop) (X : Chain → Hp → Prop) : Prop :=
MakeMapW h (fun p1 h2 => MapPutW h2 p1 ([115, 112, 97, 119, 110] : Str) (.agg #[.int .i64 1, .bool true, .bool false]) (fun h3 => MapPutW h3 p1 ([115, 116, 101, 112] : Str) (.agg #[.int .i64 2, .bool false, .bool false]) (fun h4 => MapPutW h4 p1 ([115, 101, 110, 100] : Str) (.agg #[.int .i64 3, .bool false, .bool true]) (fun h5 => MapPutW h5 p1 ([101, 120, 105, 116] : Str) (.agg #[.int .i64 4, .bool false, .bool true]) (fun h6 => MapPutW h6 p1 ([99, 111, 108, 108, 101, 99, 116] : Str) (.agg #[.int .i64 5, .bool false, .bool false]) (fun h7 => MapPutW h7 p1 ([112, 97, 115, 115] : Str) (.agg #[.int .i64 6, .bool false, .bool false]) (fun h8 => MapPutW h8 p1 ([114, 111, 117, 110, 100] : Str) (.agg #[.int .i64 7, .bool false, .bool false]) (fun h9 => MapPutW h9 p1 ([114, 117, 110] : Str) (.agg #[.int .i64 8, .bool false, .bool false]) (fun h10 => MapPutW h10 p1 ([115, 101, 116, 116, 108, 101] : Str) (.agg #[.int .i64 9, .bool false, .bool false]) (fun h11 => K (some p1) h11))))))))))
theorem F_script_words.sound  {h : Hp} {K : (Option Nat) → Hp → Prop} {X : Chain → Hp → Prop} (H : F_script_words.body  h K X) : F_script_words.call  h K X := by
  unfold F_script_words.body at H
  refine CallH.of Tryz.func22 rfl rfl fun w0 hw0 => ?_
  refine JC.seq (JC.region ?_)
  refine JO.p 1 [(0, .map none)] ?_
  refine JO.end_ (JC.next (JC.seq (JC.region ?_)))
  refine JO.s 0 (OpOk.mm ?_)
  intro p1 h2 hp hh
  have H := H p1 h2 hp hh
  refine JO.p 2 [(2, .agg #[.int .i64 1, .bool true, .bool false])] ?_
  obtain ⟨kvs, hm, H⟩ := H
  refine JO.s 2 (OpOk.mp (kt := 9) (et := 48) p1 ([115, 112, 97, 119, 110] : Str) (.agg #[.int .i64 1, .bool true, .bool false]) hm ?_)
  intro h3 h_1 h_2 h_3
  have H := H h3 h_1 h_2 h_3
  refine JO.p 4 [(3, .agg #[.int .i64 2, .bool false, .bool false])] ?_
  obtain ⟨kvs, hm, H⟩ := H
  refine JO.s 4 (OpOk.mp (kt := 9) (et := 48) p1 ([115, 116, 101, 112] : Str) (.agg #[.int .i64 2, .bool false, .bool false]) hm ?_)
  intro h4 h_1 h_2 h_3
  have H := H h4 h_1 h_2 h_3
  refine JO.p 6 [(4, .agg #[.int .i64 3, .bool false, .bool true])] ?_
  obtain ⟨kvs, hm, H⟩ := H
  refine JO.s 6 (OpOk.mp (kt := 9) (et := 48) p1 ([115, 101, 110, 100] : Str) (.agg #[.int .i64 3, .bool false, .bool true]) hm ?_)
  intro h5 h_1 h_2 h_3
  have H := H h5 h_1 h_2 h_3
  refine JO.p 8 [(5, .agg #[.int .i64 4, .bool false, .bool true])] ?_
  obtain ⟨kvs, hm, H⟩ := H
  refine JO.s 8 (OpOk.mp (kt := 9) (et := 48) p1 ([101, 120, 105, 116] : Str) (.agg #[.int .i64 4, .bool false, .bool true]) hm ?_)
  intro h6 h_1 h_2 h_3
  have H := H h6 h_1 h_2 h_3
  refine JO.p 10 [(6, .agg #[.int .i64 5, .bool false, .bool false])] ?_
  obtain ⟨kvs, hm, H⟩ := H
  refine JO.s 10 (OpOk.mp (kt := 9) (et := 48) p1 ([99, 111, 108, 108, 101, 99, 116] : Str) (.agg #[.int .i64 5, .bool false, .bool false]) hm ?_)
  intro h7 h_1 h_2 h_3
  have H := H h7 h_1 h_2 h_3
  refine JO.p 12 [(7, .agg #[.int .i64 6, .bool false, .bool false])] ?_
  obtain ⟨kvs, hm, H⟩ := H
  refine JO.s 12 (OpOk.mp (kt := 9) (et := 48) p1 ([112, 97, 115, 115] : Str) (.agg #[.int .i64 6, .bool false, .bool false]) hm ?_)
  intro h8 h_1 h_2 h_3
  have H := H h8 h_1 h_2 h_3
  refine JO.p 14 [(8, .agg #[.int .i64 7, .bool false, .bool false])] ?_
  obtain ⟨kvs, hm, H⟩ := H
  refine JO.s 14 (OpOk.mp (kt := 9) (et := 48) p1 ([114, 111, 117, 110, 100] : Str) (.agg #[.int .i64 7, .bool false, .bool false]) hm ?_)
  intro h9 h_1 h_2 h_3
  have H := H h9 h_1 h_2 h_3
  refine JO.p 16 [(9, .agg #[.int .i64 8, .bool false, .bool false])] ?_
  obtain ⟨kvs, hm, H⟩ := H
  refine JO.s 16 (OpOk.mp (kt := 9) (et := 48) p1 ([114, 117, 110] : Str) (.agg #[.int .i64 8, .bool false, .bool false]) hm ?_)
  intro h10 h_1 h_2 h_3
  have H := H h10 h_1 h_2 h_3
  refine JO.p 18 [(10, .agg #[.int .i64 9, .bool false, .bool false])] ?_
  obtain ⟨kvs, hm, H⟩ := H
  refine JO.s 18 (OpOk.mp (kt := 9) (et := 48) p1 ([115, 101, 116, 116, 108, 101] : Str) (.agg #[.int .i64 9, .bool false, .bool false]) hm ?_)
  intro h11 h_1 h_2 h_3
  have H := H h11 h_1 h_2 h_3
  refine JO.p 21 [(0, .map (some p1))] ?_
  refine JO.end_ (JC.next (JC.ret ?_))
  exact JK.retG1 (.map (some p1)) rfl RVal.s ⟨some p1, by kernel_rfl, H⟩

def F_script_named.body (rest : Str) (h : Hp) (K : V_api_Deed → Bool → Hp → Prop) (X : Chain → Hp → Prop) : Prop :=
∀ (p1 : Nat) (h2 : Hp), New p1 h h2 → Ev [p1] h h2 → LoopW (fun (s3 : Int × V_api_Deed) h4 next5 =>
(s3.1 < (rest.length : Int) → JoinW (fun (k7 : V_api_Deed → Hp → Prop) =>
(0 ≤ s3.1 ∧ s3.1 < rest.length) ∧ (((bt rest s3.1) != 32) = true → k7 s3.2 h4) ∧
(((bt rest s3.1) != 32) = false → (0 ≤ (0 : Int) ∧ (0 : Int) ≤ s3.1 ∧ s3.1 ≤ (rest.length : Int)) ∧ (LtAll [p1] h4 → F_text_Read.call (sub rest 0 s3.1) h4 (fun (r12 : V_api_Term) (r13 : Int) (h14 : Hp) => SameOn [p1] h4 h14 ∧ (0 ≤ IntKind.i64.wrap (s3.1 + 1) ∧ (IntKind.i64.wrap (s3.1 + 1)) ≤ (rest.length : Int) ∧ (rest.length : Int) ≤ (rest.length : Int)) ∧ ∀ (p15 : Nat) (h17 : Hp), New p15 h14 h17 → Ev [p15, p1] h14 h17 → (LtAll [p15, p1] h17 → F_text_Read.call (sub rest (IntKind.i64.wrap (s3.1 + 1)) (rest.length : Int)) h17 (fun (r19 : V_api_Term) (r20 : Int) (h21 : Hp) => SameOn [p15, p1] h17 h21 ∧ ((((r13 != 0) || (r20 != 0)) || (r12.Kind != 2)) = true → ∀ (p22 : Nat) (h24 : Hp), New p22 h21 h24 → Ev [p22, p15, p1] h21 h24 → k7 s3.2 h24) ∧
((((r13 != 0) || (r20 != 0)) || (r12.Kind != 2)) = false → ∀ (p22 : Nat) (h24 : Hp), New p22 h21 h24 → Ev [p22, p15, p1] h21 h24 → (LtAll [p22, p15, p1] h24 → F_term_Items.call r19 h24 (fun (r27 : Sl) (r28 : Bool) (h29 : Hp) => SameOn [p22, p15, p1] h24 h29 ∧ (r28 = true → ∀ (h30 : Hp), Ev [p22, p15, p1] h29 h30 → K (⟨1, 0, r12.S, (⟨0, 0, ([] : Str), (⟨none, 0, 0⟩ : Sl)⟩ : V_api_Term), r27⟩ : V_api_Deed) true h30) ∧
(r28 = false → k7 s3.2 h29)) X))) X)) X))) (fun (s8 : V_api_Deed) h9 =>
next5 (IntKind.i64.wrap (s3.1 + 1), s8) h9)) ∧
(¬ (s3.1 < (rest.length : Int)) → ∀ (h31 : Hp), Ev [p1] h4 h31 → K (⟨0, 0, ([] : Str), (⟨0, 0, ([] : Str), (⟨none, 0, 0⟩ : Sl)⟩ : V_api_Term), (⟨none, 0, 0⟩ : Sl)⟩ : V_api_Deed) false h31)) (0, (⟨0, 0, ([] : Str), (⟨0, 0, ([] : Str), (⟨none, 0, 0⟩ : Sl)⟩ : V_api_Term), (⟨none, 0, 0⟩ : Sl)⟩ : V_api_Deed)) h2
theorem F_script_named.sound {rest : Str} {h : Hp} {K : V_api_Deed → Bool → Hp → Prop} {X : Chain → Hp → Prop} (H : F_script_named.body rest h K X) : F_script_named.call rest h K X := by
  unfold F_script_named.body at H
  refine CallH.of Tryz.func23 rfl rfl fun w0 hw0 => ?_
  refine JC.seq (JC.region ?_)
  refine JO.s 0 (OpOk.bp [.int .i64 0, .int .i64 0, .string (ba ([] : Str)), .int .i64 0, .int .i64 0, .string (ba ([] : Str)), sl (⟨none, 0, 0⟩ : Sl), sl (⟨none, 0, 0⟩ : Sl)] 26 ?_)
  intro p1 h2 hp hh
  have hE := Ev.refl [] h
  have hB := KeepB.nil h
  have hNp1 : Array.size h ≤ p1 := hp ▸ hE.size
  have hB : KeepB [(p1, .cells #[.int .i64 0, .int .i64 0, .string (ba ([] : Str)), .int .i64 0, .int .i64 0, .string (ba ([] : Str)), sl (⟨none, 0, 0⟩ : Sl), sl (⟨none, 0, 0⟩ : Sl)] 26 (0, 0))] h2 := hB.push hp hh
  have hE := hE.push hp hh
  refine JO.p 2 [(3, .bool false)] ?_
  refine JO.end_ (JC.next (JC.seq (JC.seq (JC.region ?_))))
  refine JO.p 3 [(12, .int .i64 (rest.length : Int)), (13, .int .i64 0)] ?_
  refine JO.end_ (JC.next (JC.block ?_))
  have H := H p1 h2 ⟨hNp1, hB.l 0⟩ hE
  have hE := Ev.refl [p1] h2
  obtain ⟨I6, μI6, hI6, H⟩ := H
  refine JC.loop (S := Int × V_api_Deed) (fun s3 => [(0, .string (ba rest)), (2, .pointer (some ⟨p1, 0, none⟩)), (12, .int .i64 (rest.length : Int)), (13, .int .i64 s3.1)]) (fun s3 h' => KeepB [(p1, .cells #[.int .i64 s3.2.Kind, .int .i64 s3.2.N, .string (ba s3.2.Name), .int .i64 s3.2.T.Kind, .int .i64 s3.2.T.N, .string (ba s3.2.T.S), sl s3.2.T.L, sl s3.2.L] 26 (0, 0))] h' ∧ I6 s3 h') μI6 (0, (⟨0, 0, ([] : Str), (⟨0, 0, ([] : Str), (⟨none, 0, 0⟩ : Sl)⟩ : V_api_Term), (⟨none, 0, 0⟩ : Sl)⟩ : V_api_Deed)) Sub.kk ⟨hB, hI6⟩ ?_
  rintro s3 h4 ⟨hB, hI⟩
  have H := H s3 h4 hI
  have hE := Ev.refl [p1] h4
  refine JC.seq (JC.region ?_)
  refine JO.p 1 [(14, .bool (decide (s3.1 < (rest.length : Int))))] ?_
  refine JO.end_ (JC.next (JC.seq ?_))
  refine JC.cd (decide (s3.1 < (rest.length : Int))) (fun hb => ?_) (fun hb => ?_)
  · have H := H.1 (of_decide_eq_true hb)
    refine JC.skip (JC.next ?_)
    obtain ⟨k7, H, Hk7⟩ := H
    refine JC.join (S := V_api_Deed) (fun s8 => [(0, .string (ba rest)), (2, .pointer (some ⟨p1, 0, none⟩)), (12, .int .i64 (rest.length : Int)), (13, .int .i64 s3.1)]) (fun s8 h' => KeepB [(p1, .cells #[.int .i64 s8.Kind, .int .i64 s8.N, .string (ba s8.Name), .int .i64 s8.T.Kind, .int .i64 s8.T.N, .string (ba s8.T.S), sl s8.T.L, sl s8.L] 26 (0, 0))] h' ∧ k7 s8 h') ?_ ?_
    · refine JC.block (JC.seq (JC.region ?_))
      refine JO.p 2 [(4, .int .i64 s3.1)] ?_
      refine JO.end_ (JC.next (JC.seq (JC.seq (JC.region ?_))))
      refine JO.p 2 [(16, .string (ba rest)), (17, .int .i64 s3.1)] ?_
      obtain ⟨q10, H⟩ := H
      refine JO.y 2 (Yld.ix .i64 rest s3.1 q10) ?_
      refine JO.p 4 [(19, .bool ((bt rest s3.1) != 32))] ?_
      refine JO.end_ (JC.next ?_)
      refine JC.cd ((bt rest s3.1) != 32) (fun hb => ?_) (fun hb => ?_)
      · have H := H.1 (hb)
        refine JC.exit rfl ?_
        exact JK.inv s3.2 Sub.kk ⟨hB, H⟩
      · have H := H.2 (hb)
        refine JC.skip (JC.next (JC.seq (JC.region ?_)))
        refine JO.p 2 [(21, .string (ba rest)), (22, .int .i64 s3.1)] ?_
        obtain ⟨q11, H⟩ := H
        refine JO.y 2 (Yld.ss rest none (some s3.1) q11) ?_
        have H := H hB.ltAll
        refine JO.s 3 (OpOk.c (CallH.mono H ?_ fun _ _ hx => hx))
        rintro _ h14 ⟨r12, r13, rfl, hS, H⟩
        have hB := hB.same hS
        have hE := Ev.refl [p1] h14
        refine JO.p 7 [(25, .agg #[.int .i64 r12.Kind, .int .i64 r12.N, .string (ba r12.S), sl r12.L]), (26, .int .i64 r13)] ?_
        refine JO.s 7 (OpOk.bp [.int .i64 0, .int .i64 0, .string (ba ([] : Str)), sl (⟨none, 0, 0⟩ : Sl)] 24 ?_)
        intro p15 h16 hp hh
        have hNp15 : Array.size h14 ≤ p15 := hp ▸ hE.size
        have hB : KeepB [(p15, .cells #[.int .i64 0, .int .i64 0, .string (ba ([] : Str)), sl (⟨none, 0, 0⟩ : Sl)] 24 (0, 0)), (p1, .cells #[.int .i64 s3.2.Kind, .int .i64 s3.2.N, .string (ba s3.2.Name), .int .i64 s3.2.T.Kind, .int .i64 s3.2.T.N, .string (ba s3.2.T.S), sl s3.2.T.L, sl s3.2.L] 26 (0, 0))] h16 := hB.push hp hh
        have hE := hE.push hp hh
        refine JO.s 8 (OpOk.st [.int .i64 r12.Kind, .int .i64 r12.N, .string (ba r12.S), sl r12.L] (KeepB.st hB 0 0 4) ?_)
        intro h17 hh
        have hE := hE.set hh (by simp [add_block])
        have hB : KeepB [(p15, .cells #[.int .i64 r12.Kind, .int .i64 r12.N, .string (ba r12.S), sl r12.L] 24 (0, 0)), (p1, .cells #[.int .i64 s3.2.Kind, .int .i64 s3.2.N, .string (ba s3.2.Name), .int .i64 s3.2.T.Kind, .int .i64 s3.2.T.N, .string (ba s3.2.T.S), sl s3.2.T.L, sl s3.2.L] 26 (0, 0))] h17 := hB.set 0 rfl (off := 0) rfl hh
        refine JO.p 10 [(6, .int .i64 r13)] ?_
        refine JO.end_ (JC.next (JC.seq (JC.region ?_)))
        refine JO.p 3 [(28, .string (ba rest)), (30, .int .i64 (IntKind.i64.wrap (s3.1 + 1)))] ?_
        obtain ⟨q18, H⟩ := H
        refine JO.y 3 (Yld.ss rest (some (IntKind.i64.wrap (s3.1 + 1))) none q18) ?_
        have H := H p15 h17 ⟨hNp15, hB.l 0⟩ hE
        have hE := Ev.refl [p15, p1] h17
        have H := H hB.ltAll
        refine JO.s 4 (OpOk.c (CallH.mono H ?_ fun _ _ hx => hx))
        rintro _ h21 ⟨r19, r20, rfl, hS, H⟩
        have hB := hB.same hS
        have hE := Ev.refl [p15, p1] h21
        refine JO.p 8 [(33, .agg #[.int .i64 r19.Kind, .int .i64 r19.N, .string (ba r19.S), sl r19.L]), (34, .int .i64 r20)] ?_
        refine JO.s 8 (OpOk.bp [.int .i64 0, .int .i64 0, .string (ba ([] : Str)), sl (⟨none, 0, 0⟩ : Sl)] 24 ?_)
        intro p22 h23 hp hh
        have hNp22 : Array.size h21 ≤ p22 := hp ▸ hE.size
        have hB : KeepB [(p22, .cells #[.int .i64 0, .int .i64 0, .string (ba ([] : Str)), sl (⟨none, 0, 0⟩ : Sl)] 24 (0, 0)), (p15, .cells #[.int .i64 r12.Kind, .int .i64 r12.N, .string (ba r12.S), sl r12.L] 24 (0, 0)), (p1, .cells #[.int .i64 s3.2.Kind, .int .i64 s3.2.N, .string (ba s3.2.Name), .int .i64 s3.2.T.Kind, .int .i64 s3.2.T.N, .string (ba s3.2.T.S), sl s3.2.T.L, sl s3.2.L] 26 (0, 0))] h23 := hB.push hp hh
        have hE := hE.push hp hh
        refine JO.s 9 (OpOk.st [.int .i64 r19.Kind, .int .i64 r19.N, .string (ba r19.S), sl r19.L] (KeepB.st hB 0 0 4) ?_)
        intro h24 hh
        have hE := hE.set hh (by simp [add_block])
        have hB : KeepB [(p22, .cells #[.int .i64 r19.Kind, .int .i64 r19.N, .string (ba r19.S), sl r19.L] 24 (0, 0)), (p15, .cells #[.int .i64 r12.Kind, .int .i64 r12.N, .string (ba r12.S), sl r12.L] 24 (0, 0)), (p1, .cells #[.int .i64 s3.2.Kind, .int .i64 s3.2.N, .string (ba s3.2.Name), .int .i64 s3.2.T.Kind, .int .i64 s3.2.T.N, .string (ba s3.2.T.S), sl s3.2.T.L, sl s3.2.L] 26 (0, 0))] h24 := hB.set 0 rfl (off := 0) rfl hh
        refine JO.p 11 [(8, .int .i64 r20)] ?_
        refine JO.end_ (JC.next (JC.seq (JC.seq (JC.region ?_))))
        refine JO.p 3 [(37, .bool (r13 != 0))] ?_
        refine JO.jq 6 [(0, .string (ba rest)), (2, .pointer (some ⟨p1, 0, none⟩)), (5, .pointer (some ⟨p15, 0, none⟩)), (7, .pointer (some ⟨p22, 0, none⟩)), (12, .int .i64 (rest.length : Int)), (13, .int .i64 s3.1), (40, .bool ((r13 != 0) || (r20 != 0)))] ?_ ?_
        · refine JO.cs 37 (r13 != 0) (fun hc25 => ?_) (fun hc25 => ?_)
          · refine JO.p 6 [(40, .bool true)] ?_
            refine JO.end_ ?_
            exact JK.invQ (Sub.of (by (try rw [hc25]); first | done | kernel_rfl))
          · refine JO.p 6 [(40, .bool (r20 != 0))] ?_
            refine JO.end_ ?_
            exact JK.invQ (Sub.of (by (try rw [hc25]); first | done | kernel_rfl))
        refine JO.p 7 [(41, .bool ((r13 != 0) || (r20 != 0)))] ?_
        refine JO.jq 11 [(0, .string (ba rest)), (2, .pointer (some ⟨p1, 0, none⟩)), (5, .pointer (some ⟨p15, 0, none⟩)), (7, .pointer (some ⟨p22, 0, none⟩)), (12, .int .i64 (rest.length : Int)), (13, .int .i64 s3.1), (45, .bool (((r13 != 0) || (r20 != 0)) || (r12.Kind != 2)))] ?_ ?_
        · refine JO.cs 41 ((r13 != 0) || (r20 != 0)) (fun hc26 => ?_) (fun hc26 => ?_)
          · refine JO.p 11 [(45, .bool true)] ?_
            refine JO.end_ ?_
            exact JK.invQ (Sub.of (by (try rw [hc26]); first | done | kernel_rfl))
          · refine JO.p 8 [(42, .pointer (some ((⟨p15, 0, none⟩ : Addr).add 0)))] ?_
            refine JO.y 8 (Yld.le (KeepB.c hB 1 0 [.int .i64 r12.Kind])) ?_
            refine JO.p 11 [(45, .bool (r12.Kind != 2))] ?_
            refine JO.end_ ?_
            exact JK.invQ (Sub.of (by (try rw [hc26]); first | done | kernel_rfl))
        refine JO.end_ (JC.next ?_)
        refine JC.cd (((r13 != 0) || (r20 != 0)) || (r12.Kind != 2)) (fun hb => ?_) (fun hb => ?_)
        · have H := H.1 (hb)
          refine JC.exit rfl ?_
          have H := H p22 h24 ⟨hNp22, hB.l 0⟩ hE
          have hE := Ev.refl [p22, p15, p1] h24
          exact JK.inv s3.2 Sub.kk ⟨(hB.drop 2), H⟩
        · have H := H.2 (hb)
          refine JC.skip (JC.next (JC.seq (JC.region ?_)))
          refine JO.y 0 (Yld.lne (KeepB.c hB 0 0 [.int .i64 r19.Kind, .int .i64 r19.N, .string (ba r19.S), sl r19.L])) ?_
          have H := H p22 h24 ⟨hNp22, hB.l 0⟩ hE
          have hE := Ev.refl [p22, p15, p1] h24
          have H := H hB.ltAll
          refine JO.s 1 (OpOk.c (CallH.mono H ?_ fun _ _ hx => hx))
          rintro _ h29 ⟨r27, r28, rfl, hS, H⟩
          have hB := hB.same hS
          have hE := Ev.refl [p22, p15, p1] h29
          refine JO.p 7 [(9, sl r27), (10, .bool r28)] ?_
          refine JO.end_ (JC.next (JC.seq (JC.region ?_)))
          refine JO.p 1 [(51, .bool r28)] ?_
          refine JO.end_ (JC.next ?_)
          refine JC.cd r28 (fun hb => ?_) (fun hb => ?_)
          · have H := H.1 (hb)
            refine JC.seq (JC.region ?_)
            refine JO.p 1 [(52, .pointer (some ((⟨p15, 0, none⟩ : Addr).add 2)))] ?_
            refine JO.y 1 (Yld.le (KeepB.c hB 1 2 [.string (ba r12.S)])) ?_
            refine JO.p 4 [(55, .agg #[.int .i64 1, .int .i64 0, .string (ba r12.S), .int .i64 0, .int .i64 0, .string (ba ([] : Str)), sl (⟨none, 0, 0⟩ : Sl), sl r27])] ?_
            refine JO.s 4 (OpOk.st [.int .i64 1, .int .i64 0, .string (ba r12.S), .int .i64 0, .int .i64 0, .string (ba ([] : Str)), sl (⟨none, 0, 0⟩ : Sl), sl r27] (KeepB.st hB 2 0 8) ?_)
            intro h30 hh
            have hE := hE.set hh (by simp [add_block])
            have hB : KeepB [(p22, .cells #[.int .i64 r19.Kind, .int .i64 r19.N, .string (ba r19.S), sl r19.L] 24 (0, 0)), (p15, .cells #[.int .i64 r12.Kind, .int .i64 r12.N, .string (ba r12.S), sl r12.L] 24 (0, 0)), (p1, .cells #[.int .i64 1, .int .i64 0, .string (ba r12.S), .int .i64 0, .int .i64 0, .string (ba ([] : Str)), sl (⟨none, 0, 0⟩ : Sl), sl r27] 26 (0, 0))] h30 := hB.set 2 rfl (off := 0) rfl hh
            refine JO.p 6 [(3, .bool true)] ?_
            refine JO.end_ (JC.next (JC.ret ?_))
            have H := H h30 hE
            have hE := Ev.refl [p22, p15, p1] h30
            exact JK.retG2 (.agg #[.int .i64 1, .int .i64 0, .string (ba r12.S), .int .i64 0, .int .i64 0, .string (ba ([] : Str)), sl (⟨none, 0, 0⟩ : Sl), sl r27]) (.bool true) rfl (RVal.bN p1 26 hB 2) RVal.s ⟨(⟨1, 0, r12.S, (⟨0, 0, ([] : Str), (⟨none, 0, 0⟩ : Sl)⟩ : V_api_Term), r27⟩ : V_api_Deed), true, by kernel_rfl, H⟩
          · have H := H.2 (hb)
            refine JC.skip ?_
            exact JK.inv s3.2 Sub.kk ⟨(hB.drop 2), H⟩
    · rintro s8 h9 ⟨hB, hk⟩
      have H := Hk7 s8 h9 hk
      have hE := Ev.refl [p1] h9
      refine JC.region ?_
      refine JO.p 2 [(13, .int .i64 (IntKind.i64.wrap (s3.1 + 1)))] ?_
      refine JO.end_ ?_
      exact JK.inv (IntKind.i64.wrap (s3.1 + 1), s8) Sub.kk ⟨⟨hB, H.1⟩, H.2⟩
  · have H := H.2 (of_decide_eq_false hb)
    refine JC.exit rfl ?_
    refine JC.next (JC.seq (JC.region ?_))
    refine JO.p 1 [(57, .agg #[.int .i64 0, .int .i64 0, .string (ba ([] : Str)), .int .i64 0, .int .i64 0, .string (ba ([] : Str)), sl (⟨none, 0, 0⟩ : Sl), sl (⟨none, 0, 0⟩ : Sl)])] ?_
    refine JO.s 1 (OpOk.st [.int .i64 0, .int .i64 0, .string (ba ([] : Str)), .int .i64 0, .int .i64 0, .string (ba ([] : Str)), sl (⟨none, 0, 0⟩ : Sl), sl (⟨none, 0, 0⟩ : Sl)] (KeepB.st hB 0 0 8) ?_)
    intro h31 hh
    have hE := hE.set hh (by simp [add_block])
    have hB : KeepB [(p1, .cells #[.int .i64 0, .int .i64 0, .string (ba ([] : Str)), .int .i64 0, .int .i64 0, .string (ba ([] : Str)), sl (⟨none, 0, 0⟩ : Sl), sl (⟨none, 0, 0⟩ : Sl)] 26 (0, 0))] h31 := hB.set 0 rfl (off := 0) rfl hh
    refine JO.p 3 [(3, .bool false)] ?_
    refine JO.end_ (JC.next (JC.ret ?_))
    have H := H h31 hE
    have hE := Ev.refl [p1] h31
    exact JK.retG2 (.agg #[.int .i64 0, .int .i64 0, .string (ba ([] : Str)), .int .i64 0, .int .i64 0, .string (ba ([] : Str)), sl (⟨none, 0, 0⟩ : Sl), sl (⟨none, 0, 0⟩ : Sl)]) (.bool false) rfl (RVal.bN p1 26 hB 0) RVal.s ⟨(⟨0, 0, ([] : Str), (⟨0, 0, ([] : Str), (⟨none, 0, 0⟩ : Sl)⟩ : V_api_Term), (⟨none, 0, 0⟩ : Sl)⟩ : V_api_Deed), false, by kernel_rfl, H⟩

def F_text_Read.body (s : Str) (h : Hp) (K : V_api_Term → Int → Hp → Prop) (X : Chain → Hp → Prop) : Prop :=
∀ (p1 : Nat) (h2 : Hp), New p1 h h2 → Ev [p1] h h2 → (LtAll [p1] h2 → F_text_read.call s h2 (fun (r3 : V_api_Term) (r4 : Bool) (h5 : Hp) => SameOn [p1] h2 h5 ∧ ((!r4) = true → ∀ (p6 : Nat) (h9 : Hp), New p6 h5 h9 → Ev [p6, p1] h5 h9 → K (⟨0, 0, ([] : Str), (⟨none, 0, 0⟩ : Sl)⟩ : V_api_Term) 4 h9) ∧
((!r4) = false → ∀ (p6 : Nat) (h8 : Hp), New p6 h5 h8 → Ev [p6, p1] h5 h8 → (LtAll [p6, p1] h8 → F_term_Check.call r3 h8 (fun (r10 : Int) (h11 : Hp) => SameOn [p6, p1] h8 h11 ∧ ((r10 != 0) = true → ∀ (h12 : Hp), Ev [p6, p1] h11 h12 → K (⟨0, 0, ([] : Str), (⟨none, 0, 0⟩ : Sl)⟩ : V_api_Term) r10 h12) ∧
((r10 != 0) = false → ∀ (h13 : Hp), Ev [p6, p1] h11 h13 → K r3 0 h13)) X))) X)
theorem F_text_Read.sound {s : Str} {h : Hp} {K : V_api_Term → Int → Hp → Prop} {X : Chain → Hp → Prop} (H : F_text_Read.body s h K X) : F_text_Read.call s h K X := by
  unfold F_text_Read.body at H
  refine CallH.of Tryz.func24 rfl rfl fun w0 hw0 => ?_
  refine JC.seq (JC.region ?_)
  refine JO.s 0 (OpOk.bp [.int .i64 0, .int .i64 0, .string (ba ([] : Str)), sl (⟨none, 0, 0⟩ : Sl)] 24 ?_)
  intro p1 h2 hp hh
  have hE := Ev.refl [] h
  have hB := KeepB.nil h
  have hNp1 : Array.size h ≤ p1 := hp ▸ hE.size
  have hB : KeepB [(p1, .cells #[.int .i64 0, .int .i64 0, .string (ba ([] : Str)), sl (⟨none, 0, 0⟩ : Sl)] 24 (0, 0))] h2 := hB.push hp hh
  have hE := hE.push hp hh
  refine JO.p 2 [(3, .int .i64 0)] ?_
  refine JO.end_ (JC.next (JC.seq (JC.region ?_)))
  refine JO.p 1 [(8, .string (ba s))] ?_
  have H := H p1 h2 ⟨hNp1, hB.l 0⟩ hE
  have hE := Ev.refl [p1] h2
  have H := H hB.ltAll
  refine JO.s 1 (OpOk.c (CallH.mono H ?_ fun _ _ hx => hx))
  rintro _ h5 ⟨r3, r4, rfl, hS, H⟩
  have hB := hB.same hS
  have hE := Ev.refl [p1] h5
  refine JO.p 5 [(10, .agg #[.int .i64 r3.Kind, .int .i64 r3.N, .string (ba r3.S), sl r3.L]), (11, .bool r4)] ?_
  refine JO.s 5 (OpOk.bp [.int .i64 0, .int .i64 0, .string (ba ([] : Str)), sl (⟨none, 0, 0⟩ : Sl)] 24 ?_)
  intro p6 h7 hp hh
  have hNp6 : Array.size h5 ≤ p6 := hp ▸ hE.size
  have hB : KeepB [(p6, .cells #[.int .i64 0, .int .i64 0, .string (ba ([] : Str)), sl (⟨none, 0, 0⟩ : Sl)] 24 (0, 0)), (p1, .cells #[.int .i64 0, .int .i64 0, .string (ba ([] : Str)), sl (⟨none, 0, 0⟩ : Sl)] 24 (0, 0))] h7 := hB.push hp hh
  have hE := hE.push hp hh
  refine JO.s 6 (OpOk.st [.int .i64 r3.Kind, .int .i64 r3.N, .string (ba r3.S), sl r3.L] (KeepB.st hB 0 0 4) ?_)
  intro h8 hh
  have hE := hE.set hh (by simp [add_block])
  have hB : KeepB [(p6, .cells #[.int .i64 r3.Kind, .int .i64 r3.N, .string (ba r3.S), sl r3.L] 24 (0, 0)), (p1, .cells #[.int .i64 0, .int .i64 0, .string (ba ([] : Str)), sl (⟨none, 0, 0⟩ : Sl)] 24 (0, 0))] h8 := hB.set 0 rfl (off := 0) rfl hh
  refine JO.p 8 [(5, .bool r4)] ?_
  refine JO.end_ (JC.next (JC.seq (JC.seq (JC.region ?_))))
  refine JO.p 2 [(13, .bool (!r4))] ?_
  refine JO.end_ (JC.next ?_)
  refine JC.cd (!r4) (fun hb => ?_) (fun hb => ?_)
  · have H := H.1 (hb)
    refine JC.seq (JC.region ?_)
    refine JO.p 1 [(14, .agg #[.int .i64 0, .int .i64 0, .string (ba ([] : Str)), sl (⟨none, 0, 0⟩ : Sl)])] ?_
    refine JO.s 1 (OpOk.st [.int .i64 0, .int .i64 0, .string (ba ([] : Str)), sl (⟨none, 0, 0⟩ : Sl)] (KeepB.st hB 1 0 4) ?_)
    intro h9 hh
    have hE := hE.set hh (by simp [add_block])
    have hB : KeepB [(p6, .cells #[.int .i64 r3.Kind, .int .i64 r3.N, .string (ba r3.S), sl r3.L] 24 (0, 0)), (p1, .cells #[.int .i64 0, .int .i64 0, .string (ba ([] : Str)), sl (⟨none, 0, 0⟩ : Sl)] 24 (0, 0))] h9 := hB.set 1 rfl (off := 0) rfl hh
    refine JO.p 3 [(3, .int .i64 4)] ?_
    refine JO.end_ (JC.next (JC.ret ?_))
    have H := H p6 h9 ⟨hNp6, hB.l 0⟩ hE
    have hE := Ev.refl [p6, p1] h9
    exact JK.retG2 (.agg #[.int .i64 0, .int .i64 0, .string (ba ([] : Str)), sl (⟨none, 0, 0⟩ : Sl)]) (.int .i64 4) rfl (RVal.bN p1 24 hB 1) RVal.s ⟨(⟨0, 0, ([] : Str), (⟨none, 0, 0⟩ : Sl)⟩ : V_api_Term), 4, by kernel_rfl, H⟩
  · have H := H.2 (hb)
    refine JC.skip (JC.next (JC.seq (JC.seq (JC.region ?_))))
    refine JO.y 0 (Yld.lne (KeepB.c hB 0 0 [.int .i64 r3.Kind, .int .i64 r3.N, .string (ba r3.S), sl r3.L])) ?_
    have H := H p6 h8 ⟨hNp6, hB.l 0⟩ hE
    have hE := Ev.refl [p6, p1] h8
    have H := H hB.ltAll
    refine JO.s 1 (OpOk.c (CallH.mono H ?_ fun _ _ hx => hx))
    rintro _ h11 ⟨r10, rfl, hS, H⟩
    have hB := hB.same hS
    have hE := Ev.refl [p6, p1] h11
    refine JO.p 3 [(6, .int .i64 r10)] ?_
    refine JO.end_ (JC.next (JC.seq (JC.region ?_)))
    refine JO.p 2 [(18, .bool (r10 != 0))] ?_
    refine JO.end_ (JC.next ?_)
    refine JC.cd (r10 != 0) (fun hb => ?_) (fun hb => ?_)
    · have H := H.1 (hb)
      refine JC.seq (JC.region ?_)
      refine JO.p 2 [(19, .agg #[.int .i64 0, .int .i64 0, .string (ba ([] : Str)), sl (⟨none, 0, 0⟩ : Sl)]), (20, .int .i64 r10)] ?_
      refine JO.s 2 (OpOk.st [.int .i64 0, .int .i64 0, .string (ba ([] : Str)), sl (⟨none, 0, 0⟩ : Sl)] (KeepB.st hB 1 0 4) ?_)
      intro h12 hh
      have hE := hE.set hh (by simp [add_block])
      have hB : KeepB [(p6, .cells #[.int .i64 r3.Kind, .int .i64 r3.N, .string (ba r3.S), sl r3.L] 24 (0, 0)), (p1, .cells #[.int .i64 0, .int .i64 0, .string (ba ([] : Str)), sl (⟨none, 0, 0⟩ : Sl)] 24 (0, 0))] h12 := hB.set 1 rfl (off := 0) rfl hh
      refine JO.p 4 [(3, .int .i64 r10)] ?_
      refine JO.end_ (JC.next (JC.ret ?_))
      have H := H h12 hE
      have hE := Ev.refl [p6, p1] h12
      exact JK.retG2 (.agg #[.int .i64 0, .int .i64 0, .string (ba ([] : Str)), sl (⟨none, 0, 0⟩ : Sl)]) (.int .i64 r10) rfl (RVal.bN p1 24 hB 1) RVal.s ⟨(⟨0, 0, ([] : Str), (⟨none, 0, 0⟩ : Sl)⟩ : V_api_Term), r10, by kernel_rfl, H⟩
    · have H := H.2 (hb)
      refine JC.skip (JC.next (JC.seq (JC.region ?_)))
      refine JO.y 0 (Yld.lne (KeepB.c hB 0 0 [.int .i64 r3.Kind, .int .i64 r3.N, .string (ba r3.S), sl r3.L])) ?_
      refine JO.s 1 (OpOk.st [.int .i64 r3.Kind, .int .i64 r3.N, .string (ba r3.S), sl r3.L] (KeepB.st hB 1 0 4) ?_)
      intro h13 hh
      have hE := hE.set hh (by simp [add_block])
      have hB : KeepB [(p6, .cells #[.int .i64 r3.Kind, .int .i64 r3.N, .string (ba r3.S), sl r3.L] 24 (0, 0)), (p1, .cells #[.int .i64 r3.Kind, .int .i64 r3.N, .string (ba r3.S), sl r3.L] 24 (0, 0))] h13 := hB.set 1 rfl (off := 0) rfl hh
      refine JO.p 3 [(3, .int .i64 0)] ?_
      refine JO.end_ (JC.next (JC.ret ?_))
      have H := H h13 hE
      have hE := Ev.refl [p6, p1] h13
      exact JK.retG2 (.agg #[.int .i64 r3.Kind, .int .i64 r3.N, .string (ba r3.S), sl r3.L]) (.int .i64 0) rfl (RVal.bN p1 24 hB 1) RVal.s ⟨r3, 0, by kernel_rfl, H⟩

def F_script_number.body (s : Str) (h : Hp) (K : Int → Bool → Hp → Prop) (X : Chain → Hp → Prop) : Prop :=
F_strconv_Atoi.call s h (fun (r1 : Int) (r2 : Ifc) (h3 : Hp) => JoinW (fun (k6 : Bool → Hp → Prop) =>
(((r2.isNone && (decide (r1 ≥ 0))) && (decide (r1 ≤ 1073741824))) = true → F_strconv_Itoa.call r1 h3 (fun (r10 : Str) (h11 : Hp) => k6 (cmpS .eql r10 s) h11) X) ∧
(((r2.isNone && (decide (r1 ≥ 0))) && (decide (r1 ≤ 1073741824))) = false → k6 false h3)) (fun (y7 : Bool) h8 =>
K r1 y7 h8)) X
theorem F_script_number.sound {s : Str} {h : Hp} {K : Int → Bool → Hp → Prop} {X : Chain → Hp → Prop} (H : F_script_number.body s h K X) : F_script_number.call s h K X := by
  unfold F_script_number.body at H
  refine CallH.of Tryz.func25 rfl rfl fun w0 hw0 => ?_
  refine JC.seq (JC.region ?_)
  refine JO.p 2 [(2, .int .i64 0), (3, .bool false)] ?_
  refine JO.end_ (JC.next (JC.seq (JC.region ?_)))
  refine JO.p 1 [(7, .string (ba s))] ?_
  refine JO.s 1 (OpOk.c (CallH.mono H ?_ fun _ _ hx => hx))
  rintro _ h3 ⟨r1, r2, rfl, H⟩
  refine JO.p 7 [(4, .int .i64 r1), (5, ifc r2)] ?_
  refine JO.end_ (JC.next (JC.seq (JC.region ?_)))
  refine JO.p 2 [(11, .int .i64 r1), (12, ifc r2)] ?_
  refine JO.y 2 (Yld.eF r2) ?_
  refine JO.p 4 [(14, .bool r2.isNone)] ?_
  refine JO.jq 7 [(0, .string (ba s)), (4, .int .i64 r1), (11, .int .i64 r1), (17, .bool (r2.isNone && (decide (r1 ≥ 0))))] ?_ ?_
  · refine JO.cs 14 r2.isNone (fun hc4 => ?_) (fun hc4 => ?_)
    · refine JO.p 7 [(17, .bool (decide (r1 ≥ 0)))] ?_
      refine JO.end_ ?_
      exact JK.invQ (Sub.of (by (try rw [hc4]); first | done | kernel_rfl))
    · refine JO.p 7 [(17, .bool false)] ?_
      refine JO.end_ ?_
      exact JK.invQ (Sub.of (by (try rw [hc4]); first | done | kernel_rfl))
  refine JO.p 8 [(18, .bool (r2.isNone && (decide (r1 ≥ 0))))] ?_
  refine JO.jq 11 [(0, .string (ba s)), (4, .int .i64 r1), (11, .int .i64 r1), (21, .bool ((r2.isNone && (decide (r1 ≥ 0))) && (decide (r1 ≤ 1073741824))))] ?_ ?_
  · refine JO.cs 18 (r2.isNone && (decide (r1 ≥ 0))) (fun hc5 => ?_) (fun hc5 => ?_)
    · refine JO.p 11 [(21, .bool (decide (r1 ≤ 1073741824)))] ?_
      refine JO.end_ ?_
      exact JK.invQ (Sub.of (by (try rw [hc5]); first | done | kernel_rfl))
    · refine JO.p 11 [(21, .bool false)] ?_
      refine JO.end_ ?_
      exact JK.invQ (Sub.of (by (try rw [hc5]); first | done | kernel_rfl))
  refine JO.p 12 [(22, .bool ((r2.isNone && (decide (r1 ≥ 0))) && (decide (r1 ≤ 1073741824))))] ?_
  obtain ⟨k6, H, Hk6⟩ := H
  refine JO.jn (S := Bool) 17 (fun y7 => [(11, .int .i64 r1), (27, .bool y7)]) (fun y7 h' => KeepB [] h' ∧ k6 y7 h') ?_ ?_
  · refine JO.cs 22 ((r2.isNone && (decide (r1 ≥ 0))) && (decide (r1 ≤ 1073741824))) (fun hc9 => ?_) (fun hc9 => ?_)
    · have H := H.1 (hc9)
      refine JO.p 13 [(23, .int .i64 r1)] ?_
      refine JO.s 13 (OpOk.c (CallH.mono H ?_ fun _ _ hx => hx))
      rintro _ h11 ⟨r10, rfl, H⟩
      refine JO.p 15 [(25, .string (ba s))] ?_
      refine JO.y 15 (Yld.cp .eql r10 s) ?_
      refine JO.p 17 [(27, .bool (cmpS .eql r10 s))] ?_
      refine JO.end_ ?_
      exact JK.inv (cmpS .eql r10 s) (Sub.of (by (try rw [hc9]); first | done | kernel_rfl)) ⟨KeepB.nil _, H⟩
    · have H := H.2 (hc9)
      refine JO.p 17 [(27, .bool false)] ?_
      refine JO.end_ ?_
      exact JK.inv false (Sub.of (by (try rw [hc9]); first | done | kernel_rfl)) ⟨KeepB.nil _, H⟩
  rintro y7 h8 ⟨hB, hk⟩
  have H := Hk6 y7 h8 hk
  have hE := Ev.refl [] h8
  refine JO.p 19 [(2, .int .i64 r1), (3, .bool y7)] ?_
  refine JO.end_ (JC.next (JC.ret ?_))
  exact JK.retG2 (.int .i64 r1) (.bool y7) rfl RVal.s RVal.s ⟨r1, y7, by kernel_rfl, H⟩

def F_tenureref31_Cut.body (s : Str) (h : Hp) (K : Str → Str → Bool → Hp → Prop) (X : Chain → Hp → Prop) : Prop :=
LoopW (fun (s1 : Int) h2 next3 =>
(s1 < (s.length : Int) → (0 ≤ s1 ∧ s1 < s.length) ∧ (((bt s s1) == 32) = true → (0 ≤ (0 : Int) ∧ (0 : Int) ≤ s1 ∧ s1 ≤ (s.length : Int)) ∧ (0 ≤ IntKind.i64.wrap (s1 + 1) ∧ (IntKind.i64.wrap (s1 + 1)) ≤ (s.length : Int) ∧ (s.length : Int) ≤ (s.length : Int)) ∧ K (sub s 0 s1) (sub s (IntKind.i64.wrap (s1 + 1)) (s.length : Int)) true h2) ∧
(((bt s s1) == 32) = false → ∀ (x8 : Int), x8 = IntKind.i64.wrap (s1 + 1) → next3 x8 h2)) ∧
(¬ (s1 < (s.length : Int)) → K s ([] : Str) false h2)) 0 h
theorem F_tenureref31_Cut.sound {s : Str} {h : Hp} {K : Str → Str → Bool → Hp → Prop} {X : Chain → Hp → Prop} (H : F_tenureref31_Cut.body s h K X) : F_tenureref31_Cut.call s h K X := by
  unfold F_tenureref31_Cut.body at H
  refine CallH.of Tryz.func26 rfl rfl fun w0 hw0 => ?_
  refine JC.seq (JC.region ?_)
  refine JO.p 3 [(2, .string (ba ([] : Str))), (3, .string (ba ([] : Str))), (4, .bool false)] ?_
  refine JO.end_ (JC.next (JC.seq (JC.seq (JC.region ?_))))
  refine JO.p 1 [(5, .int .i64 0)] ?_
  refine JO.end_ (JC.next (JC.block ?_))
  obtain ⟨I4, μI4, hI4, H⟩ := H
  refine JC.loop (S := Int) (fun s1 => [(0, .string (ba s)), (5, .int .i64 s1)]) (fun s1 h' => KeepB [] h' ∧ I4 s1 h') μI4 0 Sub.kk ⟨KeepB.nil _, hI4⟩ ?_
  rintro s1 h2 ⟨hB, hI⟩
  have H := H s1 h2 hI
  refine JC.seq (JC.seq (JC.region ?_))
  refine JO.p 4 [(9, .bool (decide (s1 < (s.length : Int))))] ?_
  refine JO.end_ (JC.next ?_)
  refine JC.cd (decide (s1 < (s.length : Int))) (fun hb => ?_) (fun hb => ?_)
  · have H := H.1 (of_decide_eq_true hb)
    refine JC.skip (JC.next (JC.seq (JC.block (JC.seq (JC.region ?_)))))
    refine JO.p 2 [(12, .string (ba s)), (13, .int .i64 s1)] ?_
    obtain ⟨q5, H⟩ := H
    refine JO.y 2 (Yld.ix .i64 s s1 q5) ?_
    refine JO.p 4 [(15, .bool ((bt s s1) == 32))] ?_
    refine JO.end_ (JC.next ?_)
    refine JC.cd ((bt s s1) == 32) (fun hb => ?_) (fun hb => ?_)
    · have H := H.1 (hb)
      refine JC.seq ?_
      refine JC.rd 10 ?_
      refine JD.rr 0 (.string (ba s)) ?_
      refine JD.rr 1 (.int .i64 s1) ?_
      obtain ⟨q6, H⟩ := H
      refine JD.t 2 (Yld.ss s none (some s1) q6) ?_
      refine JD.rr 3 (.string (ba s)) ?_
      refine JD.rr 4 (.int .i64 s1) ?_
      refine JD.rr 5 (.int .i64 (IntKind.i64.wrap (s1 + 1))) ?_
      obtain ⟨q7, H⟩ := H
      refine JD.t 6 (Yld.ss s (some (IntKind.i64.wrap (s1 + 1))) none q7) ?_
      refine JD.rr 7 (.string (ba (sub s 0 s1))) ?_
      refine JD.rr 8 (.string (ba (sub s (IntKind.i64.wrap (s1 + 1)) (s.length : Int)))) ?_
      refine JD.rr 9 (.bool true) ?_
      refine JD.e ?_
      refine JC.next (JC.ret ?_)
      exact JK.retG3 (.string (ba (sub s 0 s1))) (.string (ba (sub s (IntKind.i64.wrap (s1 + 1)) (s.length : Int)))) (.bool true) rfl RVal.s RVal.s RVal.s ⟨sub s 0 s1, sub s (IntKind.i64.wrap (s1 + 1)) (s.length : Int), true, by kernel_rfl, H⟩
    · have H := H.2 (hb)
      refine JC.skip (JC.next (JC.region ?_))
      refine JO.p 2 [(11, .int .i64 (IntKind.i64.wrap (s1 + 1)))] ?_
      let x8 : Int := IntKind.i64.wrap (s1 + 1)
      have H := H x8 rfl
      refine JO.p 3 [(5, .int .i64 x8)] ?_
      refine JO.end_ ?_
      exact JK.inv x8 Sub.kk ⟨⟨(KeepB.nil _), H.1⟩, H.2⟩
  · have H := H.2 (of_decide_eq_false hb)
    refine JC.exit rfl ?_
    refine JC.next (JC.seq (JC.region ?_))
    refine JO.p 4 [(2, .string (ba s)), (3, .string (ba ([] : Str))), (4, .bool false)] ?_
    refine JO.end_ (JC.next (JC.ret ?_))
    exact JK.retG3 (.string (ba s)) (.string (ba ([] : Str))) (.bool false) rfl RVal.s RVal.s RVal.s ⟨s, ([] : Str), false, by kernel_rfl, H⟩

def F_tenureref31_kinds.body  (h : Hp) (K : Sl → Hp → Prop) (X : Chain → Hp → Prop) : Prop :=
AllocW h 9 [.string (ba ([115, 112, 97, 119, 110] : Str)), .string (ba ([115, 116, 101, 112] : Str)), .string (ba ([115, 101, 110, 100] : Str)), .string (ba ([101, 120, 105, 116] : Str)), .string (ba ([99, 111, 108, 108, 101, 99, 116] : Str)), .string (ba ([112, 97, 115, 115] : Str)), .string (ba ([114, 111, 117, 110, 100] : Str)), .string (ba ([114, 117, 110] : Str)), .string (ba ([115, 101, 116, 116, 108, 101] : Str))] (fun (p1 : Nat) (h2 : Hp) => K (⟨some ⟨p1, 0, none⟩, 9, 9⟩ : Sl) h2)
theorem F_tenureref31_kinds.sound  {h : Hp} {K : Sl → Hp → Prop} {X : Chain → Hp → Prop} (H : F_tenureref31_kinds.body  h K X) : F_tenureref31_kinds.call  h K X := by
  unfold F_tenureref31_kinds.body at H
  refine CallH.of Tryz.func27 rfl rfl fun w0 hw0 => ?_
  refine JC.seq (JC.region ?_)
  refine JO.p 1 [(0, sl (⟨none, 0, 0⟩ : Sl))] ?_
  refine JO.end_ (JC.next (JC.seq (JC.region ?_)))
  refine JO.s 0 (OpOk.bs 9 [.string (ba ([115, 112, 97, 119, 110] : Str)), .string (ba ([115, 116, 101, 112] : Str)), .string (ba ([115, 101, 110, 100] : Str)), .string (ba ([101, 120, 105, 116] : Str)), .string (ba ([99, 111, 108, 108, 101, 99, 116] : Str)), .string (ba ([112, 97, 115, 115] : Str)), .string (ba ([114, 111, 117, 110, 100] : Str)), .string (ba ([114, 117, 110] : Str)), .string (ba ([115, 101, 116, 116, 108, 101] : Str))] 9 ?_)
  intro p1 h2 hp hh
  have H := H p1 h2 hp hh
  refine JO.p 2 [(0, sl (⟨some ⟨p1, 0, none⟩, 9, 9⟩ : Sl))] ?_
  refine JO.end_ (JC.next (JC.ret ?_))
  exact JK.retG1 (sl (⟨some ⟨p1, 0, none⟩, 9, 9⟩ : Sl)) rfl RVal.s ⟨(⟨some ⟨p1, 0, none⟩, 9, 9⟩ : Sl), by kernel_rfl, H⟩

def F_tenureref31_spawn.body (rest : Str) (h : Hp) (K : V_api_Deed → Bool → Hp → Prop) (X : Chain → Hp → Prop) : Prop :=
∀ (p1 : Nat) (h2 : Hp), New p1 h h2 → Ev [p1] h h2 → LoopW (fun (s3 : Int × V_api_Deed) h4 next5 =>
(s3.1 < (rest.length : Int) → JoinW (fun (k7 : V_api_Deed → Hp → Prop) =>
(0 ≤ s3.1 ∧ s3.1 < rest.length) ∧ (((bt rest s3.1) != 32) = true → k7 s3.2 h4) ∧
(((bt rest s3.1) != 32) = false → (0 ≤ (0 : Int) ∧ (0 : Int) ≤ s3.1 ∧ s3.1 ≤ (rest.length : Int)) ∧ (LtAll [p1] h4 → F_tenureref05_Read.call (sub rest 0 s3.1) h4 (fun (r12 : V_api_Term) (r13 : Int) (h14 : Hp) => SameOn [p1] h4 h14 ∧ (0 ≤ IntKind.i64.wrap (s3.1 + 1) ∧ (IntKind.i64.wrap (s3.1 + 1)) ≤ (rest.length : Int) ∧ (rest.length : Int) ≤ (rest.length : Int)) ∧ ∀ (p15 : Nat) (h17 : Hp), New p15 h14 h17 → Ev [p15, p1] h14 h17 → (LtAll [p15, p1] h17 → F_tenureref05_Read.call (sub rest (IntKind.i64.wrap (s3.1 + 1)) (rest.length : Int)) h17 (fun (r19 : V_api_Term) (r20 : Int) (h21 : Hp) => SameOn [p15, p1] h17 h21 ∧ ∀ (p22 : Nat) (h24 : Hp), New p22 h21 h24 → Ev [p22, p15, p1] h21 h24 → (LtAll [p22, p15, p1] h24 → F_tenureref31_items.call r19 h24 (fun (r25 : Sl) (r26 : Bool) (h27 : Hp) => SameOn [p22, p15, p1] h24 h27 ∧ (((((r13 == 0) && (r20 == 0)) && (r12.Kind == 2)) && r26) = true → ∀ (h31 : Hp), Ev [p22, p15, p1] h27 h31 → K (⟨1, 0, r12.S, (⟨0, 0, ([] : Str), (⟨none, 0, 0⟩ : Sl)⟩ : V_api_Term), r25⟩ : V_api_Deed) true h31) ∧
(((((r13 == 0) && (r20 == 0)) && (r12.Kind == 2)) && r26) = false → k7 s3.2 h27)) X)) X)) X))) (fun (s8 : V_api_Deed) h9 =>
∀ (x32 : Int), x32 = IntKind.i64.wrap (s3.1 + 1) → next5 (x32, s8) h9)) ∧
(¬ (s3.1 < (rest.length : Int)) → ∀ (h33 : Hp), Ev [p1] h4 h33 → K (⟨0, 0, ([] : Str), (⟨0, 0, ([] : Str), (⟨none, 0, 0⟩ : Sl)⟩ : V_api_Term), (⟨none, 0, 0⟩ : Sl)⟩ : V_api_Deed) false h33)) (0, (⟨0, 0, ([] : Str), (⟨0, 0, ([] : Str), (⟨none, 0, 0⟩ : Sl)⟩ : V_api_Term), (⟨none, 0, 0⟩ : Sl)⟩ : V_api_Deed)) h2
theorem F_tenureref31_spawn.sound {rest : Str} {h : Hp} {K : V_api_Deed → Bool → Hp → Prop} {X : Chain → Hp → Prop} (H : F_tenureref31_spawn.body rest h K X) : F_tenureref31_spawn.call rest h K X := by
  unfold F_tenureref31_spawn.body at H
  refine CallH.of Tryz.func28 rfl rfl fun w0 hw0 => ?_
  refine JC.seq (JC.region ?_)
  refine JO.s 0 (OpOk.bp [.int .i64 0, .int .i64 0, .string (ba ([] : Str)), .int .i64 0, .int .i64 0, .string (ba ([] : Str)), sl (⟨none, 0, 0⟩ : Sl), sl (⟨none, 0, 0⟩ : Sl)] 26 ?_)
  intro p1 h2 hp hh
  have hE := Ev.refl [] h
  have hB := KeepB.nil h
  have hNp1 : Array.size h ≤ p1 := hp ▸ hE.size
  have hB : KeepB [(p1, .cells #[.int .i64 0, .int .i64 0, .string (ba ([] : Str)), .int .i64 0, .int .i64 0, .string (ba ([] : Str)), sl (⟨none, 0, 0⟩ : Sl), sl (⟨none, 0, 0⟩ : Sl)] 26 (0, 0))] h2 := hB.push hp hh
  have hE := hE.push hp hh
  refine JO.p 2 [(3, .bool false)] ?_
  refine JO.end_ (JC.next (JC.seq (JC.seq (JC.region ?_))))
  refine JO.p 1 [(4, .int .i64 0)] ?_
  refine JO.end_ (JC.next (JC.block ?_))
  have H := H p1 h2 ⟨hNp1, hB.l 0⟩ hE
  have hE := Ev.refl [p1] h2
  obtain ⟨I6, μI6, hI6, H⟩ := H
  refine JC.loop (S := Int × V_api_Deed) (fun s3 => [(0, .string (ba rest)), (2, .pointer (some ⟨p1, 0, none⟩)), (4, .int .i64 s3.1)]) (fun s3 h' => KeepB [(p1, .cells #[.int .i64 s3.2.Kind, .int .i64 s3.2.N, .string (ba s3.2.Name), .int .i64 s3.2.T.Kind, .int .i64 s3.2.T.N, .string (ba s3.2.T.S), sl s3.2.T.L, sl s3.2.L] 26 (0, 0))] h' ∧ I6 s3 h') μI6 (0, (⟨0, 0, ([] : Str), (⟨0, 0, ([] : Str), (⟨none, 0, 0⟩ : Sl)⟩ : V_api_Term), (⟨none, 0, 0⟩ : Sl)⟩ : V_api_Deed)) Sub.kk ⟨hB, hI6⟩ ?_
  rintro s3 h4 ⟨hB, hI⟩
  have H := H s3 h4 hI
  have hE := Ev.refl [p1] h4
  refine JC.seq (JC.seq (JC.region ?_))
  refine JO.p 4 [(14, .bool (decide (s3.1 < (rest.length : Int))))] ?_
  refine JO.end_ (JC.next ?_)
  refine JC.cd (decide (s3.1 < (rest.length : Int))) (fun hb => ?_) (fun hb => ?_)
  · have H := H.1 (of_decide_eq_true hb)
    refine JC.skip (JC.next ?_)
    obtain ⟨k7, H, Hk7⟩ := H
    refine JC.join (S := V_api_Deed) (fun s8 => [(0, .string (ba rest)), (2, .pointer (some ⟨p1, 0, none⟩)), (4, .int .i64 s3.1)]) (fun s8 h' => KeepB [(p1, .cells #[.int .i64 s8.Kind, .int .i64 s8.N, .string (ba s8.Name), .int .i64 s8.T.Kind, .int .i64 s8.T.N, .string (ba s8.T.S), sl s8.T.L, sl s8.L] 26 (0, 0))] h' ∧ k7 s8 h') ?_ ?_
    · refine JC.block (JC.seq (JC.seq (JC.region ?_)))
      refine JO.p 2 [(17, .string (ba rest)), (18, .int .i64 s3.1)] ?_
      obtain ⟨q10, H⟩ := H
      refine JO.y 2 (Yld.ix .i64 rest s3.1 q10) ?_
      refine JO.p 4 [(20, .bool ((bt rest s3.1) != 32))] ?_
      refine JO.end_ (JC.next ?_)
      refine JC.cd ((bt rest s3.1) != 32) (fun hb => ?_) (fun hb => ?_)
      · have H := H.1 (hb)
        refine JC.exit rfl ?_
        exact JK.inv s3.2 Sub.kk ⟨hB, H⟩
      · have H := H.2 (hb)
        refine JC.skip (JC.next (JC.seq (JC.region ?_)))
        refine JO.p 2 [(22, .string (ba rest)), (23, .int .i64 s3.1)] ?_
        obtain ⟨q11, H⟩ := H
        refine JO.y 2 (Yld.ss rest none (some s3.1) q11) ?_
        have H := H hB.ltAll
        refine JO.s 3 (OpOk.c (CallH.mono H ?_ fun _ _ hx => hx))
        rintro _ h14 ⟨r12, r13, rfl, hS, H⟩
        have hB := hB.same hS
        have hE := Ev.refl [p1] h14
        refine JO.p 7 [(26, .agg #[.int .i64 r12.Kind, .int .i64 r12.N, .string (ba r12.S), sl r12.L]), (27, .int .i64 r13)] ?_
        refine JO.s 7 (OpOk.bp [.int .i64 0, .int .i64 0, .string (ba ([] : Str)), sl (⟨none, 0, 0⟩ : Sl)] 24 ?_)
        intro p15 h16 hp hh
        have hNp15 : Array.size h14 ≤ p15 := hp ▸ hE.size
        have hB : KeepB [(p15, .cells #[.int .i64 0, .int .i64 0, .string (ba ([] : Str)), sl (⟨none, 0, 0⟩ : Sl)] 24 (0, 0)), (p1, .cells #[.int .i64 s3.2.Kind, .int .i64 s3.2.N, .string (ba s3.2.Name), .int .i64 s3.2.T.Kind, .int .i64 s3.2.T.N, .string (ba s3.2.T.S), sl s3.2.T.L, sl s3.2.L] 26 (0, 0))] h16 := hB.push hp hh
        have hE := hE.push hp hh
        refine JO.s 8 (OpOk.st [.int .i64 r12.Kind, .int .i64 r12.N, .string (ba r12.S), sl r12.L] (KeepB.st hB 0 0 4) ?_)
        intro h17 hh
        have hE := hE.set hh (by simp [add_block])
        have hB : KeepB [(p15, .cells #[.int .i64 r12.Kind, .int .i64 r12.N, .string (ba r12.S), sl r12.L] 24 (0, 0)), (p1, .cells #[.int .i64 s3.2.Kind, .int .i64 s3.2.N, .string (ba s3.2.Name), .int .i64 s3.2.T.Kind, .int .i64 s3.2.T.N, .string (ba s3.2.T.S), sl s3.2.T.L, sl s3.2.L] 26 (0, 0))] h17 := hB.set 0 rfl (off := 0) rfl hh
        refine JO.p 10 [(6, .int .i64 r13)] ?_
        refine JO.end_ (JC.next (JC.seq (JC.region ?_)))
        refine JO.p 3 [(29, .string (ba rest)), (31, .int .i64 (IntKind.i64.wrap (s3.1 + 1)))] ?_
        obtain ⟨q18, H⟩ := H
        refine JO.y 3 (Yld.ss rest (some (IntKind.i64.wrap (s3.1 + 1))) none q18) ?_
        have H := H p15 h17 ⟨hNp15, hB.l 0⟩ hE
        have hE := Ev.refl [p15, p1] h17
        have H := H hB.ltAll
        refine JO.s 4 (OpOk.c (CallH.mono H ?_ fun _ _ hx => hx))
        rintro _ h21 ⟨r19, r20, rfl, hS, H⟩
        have hB := hB.same hS
        have hE := Ev.refl [p15, p1] h21
        refine JO.p 8 [(34, .agg #[.int .i64 r19.Kind, .int .i64 r19.N, .string (ba r19.S), sl r19.L]), (35, .int .i64 r20)] ?_
        refine JO.s 8 (OpOk.bp [.int .i64 0, .int .i64 0, .string (ba ([] : Str)), sl (⟨none, 0, 0⟩ : Sl)] 24 ?_)
        intro p22 h23 hp hh
        have hNp22 : Array.size h21 ≤ p22 := hp ▸ hE.size
        have hB : KeepB [(p22, .cells #[.int .i64 0, .int .i64 0, .string (ba ([] : Str)), sl (⟨none, 0, 0⟩ : Sl)] 24 (0, 0)), (p15, .cells #[.int .i64 r12.Kind, .int .i64 r12.N, .string (ba r12.S), sl r12.L] 24 (0, 0)), (p1, .cells #[.int .i64 s3.2.Kind, .int .i64 s3.2.N, .string (ba s3.2.Name), .int .i64 s3.2.T.Kind, .int .i64 s3.2.T.N, .string (ba s3.2.T.S), sl s3.2.T.L, sl s3.2.L] 26 (0, 0))] h23 := hB.push hp hh
        have hE := hE.push hp hh
        refine JO.s 9 (OpOk.st [.int .i64 r19.Kind, .int .i64 r19.N, .string (ba r19.S), sl r19.L] (KeepB.st hB 0 0 4) ?_)
        intro h24 hh
        have hE := hE.set hh (by simp [add_block])
        have hB : KeepB [(p22, .cells #[.int .i64 r19.Kind, .int .i64 r19.N, .string (ba r19.S), sl r19.L] 24 (0, 0)), (p15, .cells #[.int .i64 r12.Kind, .int .i64 r12.N, .string (ba r12.S), sl r12.L] 24 (0, 0)), (p1, .cells #[.int .i64 s3.2.Kind, .int .i64 s3.2.N, .string (ba s3.2.Name), .int .i64 s3.2.T.Kind, .int .i64 s3.2.T.N, .string (ba s3.2.T.S), sl s3.2.T.L, sl s3.2.L] 26 (0, 0))] h24 := hB.set 0 rfl (off := 0) rfl hh
        refine JO.p 11 [(8, .int .i64 r20)] ?_
        refine JO.end_ (JC.next (JC.seq (JC.region ?_)))
        refine JO.y 0 (Yld.lne (KeepB.c hB 0 0 [.int .i64 r19.Kind, .int .i64 r19.N, .string (ba r19.S), sl r19.L])) ?_
        have H := H p22 h24 ⟨hNp22, hB.l 0⟩ hE
        have hE := Ev.refl [p22, p15, p1] h24
        have H := H hB.ltAll
        refine JO.s 1 (OpOk.c (CallH.mono H ?_ fun _ _ hx => hx))
        rintro _ h27 ⟨r25, r26, rfl, hS, H⟩
        have hB := hB.same hS
        have hE := Ev.refl [p22, p15, p1] h27
        refine JO.p 7 [(9, sl r25), (10, .bool r26)] ?_
        refine JO.end_ (JC.next (JC.seq (JC.region ?_)))
        refine JO.p 3 [(43, .bool (r13 == 0))] ?_
        refine JO.jq 6 [(0, .string (ba rest)), (2, .pointer (some ⟨p1, 0, none⟩)), (4, .int .i64 s3.1), (5, .pointer (some ⟨p15, 0, none⟩)), (9, sl r25), (10, .bool r26), (46, .bool ((r13 == 0) && (r20 == 0)))] ?_ ?_
        · refine JO.cs 43 (r13 == 0) (fun hc28 => ?_) (fun hc28 => ?_)
          · refine JO.p 6 [(46, .bool (r20 == 0))] ?_
            refine JO.end_ ?_
            exact JK.invQ (Sub.of (by (try rw [hc28]); first | done | kernel_rfl))
          · refine JO.p 6 [(46, .bool false)] ?_
            refine JO.end_ ?_
            exact JK.invQ (Sub.of (by (try rw [hc28]); first | done | kernel_rfl))
        refine JO.p 7 [(47, .bool ((r13 == 0) && (r20 == 0)))] ?_
        refine JO.jq 11 [(0, .string (ba rest)), (2, .pointer (some ⟨p1, 0, none⟩)), (4, .int .i64 s3.1), (5, .pointer (some ⟨p15, 0, none⟩)), (9, sl r25), (10, .bool r26), (51, .bool (((r13 == 0) && (r20 == 0)) && (r12.Kind == 2)))] ?_ ?_
        · refine JO.cs 47 ((r13 == 0) && (r20 == 0)) (fun hc29 => ?_) (fun hc29 => ?_)
          · refine JO.p 8 [(48, .pointer (some ((⟨p15, 0, none⟩ : Addr).add 0)))] ?_
            refine JO.y 8 (Yld.le (KeepB.c hB 1 0 [.int .i64 r12.Kind])) ?_
            refine JO.p 11 [(51, .bool (r12.Kind == 2))] ?_
            refine JO.end_ ?_
            exact JK.invQ (Sub.of (by (try rw [hc29]); first | done | kernel_rfl))
          · refine JO.p 11 [(51, .bool false)] ?_
            refine JO.end_ ?_
            exact JK.invQ (Sub.of (by (try rw [hc29]); first | done | kernel_rfl))
        refine JO.p 12 [(52, .bool (((r13 == 0) && (r20 == 0)) && (r12.Kind == 2)))] ?_
        refine JO.jq 14 [(0, .string (ba rest)), (2, .pointer (some ⟨p1, 0, none⟩)), (4, .int .i64 s3.1), (5, .pointer (some ⟨p15, 0, none⟩)), (9, sl r25), (54, .bool ((((r13 == 0) && (r20 == 0)) && (r12.Kind == 2)) && r26))] ?_ ?_
        · refine JO.cs 52 (((r13 == 0) && (r20 == 0)) && (r12.Kind == 2)) (fun hc30 => ?_) (fun hc30 => ?_)
          · refine JO.p 14 [(54, .bool r26)] ?_
            refine JO.end_ ?_
            exact JK.invQ (Sub.of (by (try rw [hc30]); first | done | kernel_rfl))
          · refine JO.p 14 [(54, .bool false)] ?_
            refine JO.end_ ?_
            exact JK.invQ (Sub.of (by (try rw [hc30]); first | done | kernel_rfl))
        refine JO.end_ (JC.next ?_)
        refine JC.cd ((((r13 == 0) && (r20 == 0)) && (r12.Kind == 2)) && r26) (fun hb => ?_) (fun hb => ?_)
        · have H := H.1 (hb)
          refine JC.seq (JC.region ?_)
          refine JO.p 1 [(55, .pointer (some ((⟨p15, 0, none⟩ : Addr).add 2)))] ?_
          refine JO.y 1 (Yld.le (KeepB.c hB 1 2 [.string (ba r12.S)])) ?_
          refine JO.p 4 [(58, .agg #[.int .i64 1, .int .i64 0, .string (ba r12.S), .int .i64 0, .int .i64 0, .string (ba ([] : Str)), sl (⟨none, 0, 0⟩ : Sl), sl r25])] ?_
          refine JO.s 4 (OpOk.st [.int .i64 1, .int .i64 0, .string (ba r12.S), .int .i64 0, .int .i64 0, .string (ba ([] : Str)), sl (⟨none, 0, 0⟩ : Sl), sl r25] (KeepB.st hB 2 0 8) ?_)
          intro h31 hh
          have hE := hE.set hh (by simp [add_block])
          have hB : KeepB [(p22, .cells #[.int .i64 r19.Kind, .int .i64 r19.N, .string (ba r19.S), sl r19.L] 24 (0, 0)), (p15, .cells #[.int .i64 r12.Kind, .int .i64 r12.N, .string (ba r12.S), sl r12.L] 24 (0, 0)), (p1, .cells #[.int .i64 1, .int .i64 0, .string (ba r12.S), .int .i64 0, .int .i64 0, .string (ba ([] : Str)), sl (⟨none, 0, 0⟩ : Sl), sl r25] 26 (0, 0))] h31 := hB.set 2 rfl (off := 0) rfl hh
          refine JO.p 6 [(3, .bool true)] ?_
          refine JO.end_ (JC.next (JC.ret ?_))
          have H := H h31 hE
          have hE := Ev.refl [p22, p15, p1] h31
          exact JK.retG2 (.agg #[.int .i64 1, .int .i64 0, .string (ba r12.S), .int .i64 0, .int .i64 0, .string (ba ([] : Str)), sl (⟨none, 0, 0⟩ : Sl), sl r25]) (.bool true) rfl (RVal.bN p1 26 hB 2) RVal.s ⟨(⟨1, 0, r12.S, (⟨0, 0, ([] : Str), (⟨none, 0, 0⟩ : Sl)⟩ : V_api_Term), r25⟩ : V_api_Deed), true, by kernel_rfl, H⟩
        · have H := H.2 (hb)
          refine JC.skip ?_
          exact JK.inv s3.2 Sub.kk ⟨(hB.drop 2), H⟩
    · rintro s8 h9 ⟨hB, hk⟩
      have H := Hk7 s8 h9 hk
      have hE := Ev.refl [p1] h9
      refine JC.region ?_
      refine JO.p 2 [(16, .int .i64 (IntKind.i64.wrap (s3.1 + 1)))] ?_
      let x32 : Int := IntKind.i64.wrap (s3.1 + 1)
      have H := H x32 rfl
      refine JO.p 3 [(4, .int .i64 x32)] ?_
      refine JO.end_ ?_
      exact JK.inv (x32, s8) Sub.kk ⟨⟨hB, H.1⟩, H.2⟩
  · have H := H.2 (of_decide_eq_false hb)
    refine JC.exit rfl ?_
    refine JC.next (JC.seq (JC.region ?_))
    refine JO.p 1 [(59, .agg #[.int .i64 0, .int .i64 0, .string (ba ([] : Str)), .int .i64 0, .int .i64 0, .string (ba ([] : Str)), sl (⟨none, 0, 0⟩ : Sl), sl (⟨none, 0, 0⟩ : Sl)])] ?_
    refine JO.s 1 (OpOk.st [.int .i64 0, .int .i64 0, .string (ba ([] : Str)), .int .i64 0, .int .i64 0, .string (ba ([] : Str)), sl (⟨none, 0, 0⟩ : Sl), sl (⟨none, 0, 0⟩ : Sl)] (KeepB.st hB 0 0 8) ?_)
    intro h33 hh
    have hE := hE.set hh (by simp [add_block])
    have hB : KeepB [(p1, .cells #[.int .i64 0, .int .i64 0, .string (ba ([] : Str)), .int .i64 0, .int .i64 0, .string (ba ([] : Str)), sl (⟨none, 0, 0⟩ : Sl), sl (⟨none, 0, 0⟩ : Sl)] 26 (0, 0))] h33 := hB.set 0 rfl (off := 0) rfl hh
    refine JO.p 3 [(3, .bool false)] ?_
    refine JO.end_ (JC.next (JC.ret ?_))
    have H := H h33 hE
    have hE := Ev.refl [p1] h33
    exact JK.retG2 (.agg #[.int .i64 0, .int .i64 0, .string (ba ([] : Str)), .int .i64 0, .int .i64 0, .string (ba ([] : Str)), sl (⟨none, 0, 0⟩ : Sl), sl (⟨none, 0, 0⟩ : Sl)]) (.bool false) rfl (RVal.bN p1 26 hB 0) RVal.s ⟨(⟨0, 0, ([] : Str), (⟨0, 0, ([] : Str), (⟨none, 0, 0⟩ : Sl)⟩ : V_api_Term), (⟨none, 0, 0⟩ : Sl)⟩ : V_api_Deed), false, by kernel_rfl, H⟩

end Go.Proofs.YtefbonjcpdjhcaaGreatDoor.X

/- Normal forms of functions, and that they imply the calls. Printed by a program of ours. -/
set_option linter.unusedVariables false
set_option maxRecDepth 100000
namespace Go.Proofs.YtefbonjcpdjhcaaGreatDoor.X
open Go Go.RowKit

def F_tenureref31_Number.body (s : Str) (h : Hp) (K : Int → Bool → Hp → Prop) (X : Chain → Hp → Prop) : Prop :=
(((((cmpS .eql s ([] : Str)) || (decide ((s.length : Int) > 10))) = false) ∧ ((s.length : Int) > 1)) → 0 ≤ (0 : Int) ∧ (0 : Int) < s.length) ∧ ((((cmpS .eql s ([] : Str)) || (decide ((s.length : Int) > 10))) || ((decide ((s.length : Int) > 1)) && ((bt s 0) == 48))) = true → K 0 false h) ∧
((((cmpS .eql s ([] : Str)) || (decide ((s.length : Int) > 10))) || ((decide ((s.length : Int) > 1)) && ((bt s 0) == 48))) = false → LoopW (fun (s5 : Int × Int) h6 next7 =>
(s5.2 < (s.length : Int) → (0 ≤ s5.2 ∧ s5.2 < s.length) ∧ ((¬ ((bt s s5.2) < 48)) → 0 ≤ s5.2 ∧ s5.2 < s.length) ∧ (((decide ((bt s s5.2) < 48)) || (decide ((bt s s5.2) > 57))) = true → K 0 false h6) ∧
(((decide ((bt s s5.2) < 48)) || (decide ((bt s s5.2) > 57))) = false → (0 ≤ s5.2 ∧ s5.2 < s.length) ∧ ∀ (x13 : Int), x13 = IntKind.i64.wrap ((IntKind.i64.wrap (10 * s5.1)) + (IntKind.i64.wrap (IntKind.u8.wrap ((bt s s5.2) - 48)))) → ∀ (x14 : Int), x14 = IntKind.i64.wrap (s5.2 + 1) → next7 (x13, x14) h6)) ∧
(¬ (s5.2 < (s.length : Int)) → K s5.1 (decide (s5.1 ≤ 1073741824)) h6)) (0, 0) h)
theorem F_tenureref31_Number.sound {s : Str} {h : Hp} {K : Int → Bool → Hp → Prop} {X : Chain → Hp → Prop} (H : F_tenureref31_Number.body s h K X) : F_tenureref31_Number.call s h K X := by
  unfold F_tenureref31_Number.body at H
  refine CallH.of Tryz.func29 rfl rfl fun w0 hw0 => ?_
  refine JC.seq (JC.region ?_)
  refine JO.p 2 [(2, .int .i64 0), (3, .bool false)] ?_
  refine JO.end_ (JC.next (JC.seq (JC.seq (JC.region ?_))))
  refine JO.p 1 [(6, .string (ba s))] ?_
  refine JO.y 1 (Yld.cp .eql s ([] : Str)) ?_
  refine JO.p 3 [(8, .bool (cmpS .eql s ([] : Str)))] ?_
  refine JO.jq 7 [(0, .string (ba s)), (12, .bool ((cmpS .eql s ([] : Str)) || (decide ((s.length : Int) > 10))))] ?_ ?_
  · refine JO.cs 8 (cmpS .eql s ([] : Str)) (fun hc1 => ?_) (fun hc1 => ?_)
    · refine JO.p 7 [(12, .bool true)] ?_
      refine JO.end_ ?_
      exact JK.invQ (Sub.of (by (try rw [hc1]); first | done | kernel_rfl))
    · refine JO.p 7 [(12, .bool (decide ((s.length : Int) > 10)))] ?_
      refine JO.end_ ?_
      exact JK.invQ (Sub.of (by (try rw [hc1]); first | done | kernel_rfl))
  refine JO.p 8 [(13, .bool ((cmpS .eql s ([] : Str)) || (decide ((s.length : Int) > 10))))] ?_
  obtain ⟨q2, H⟩ := H
  refine JO.jq 17 [(0, .string (ba s)), (22, .bool (((cmpS .eql s ([] : Str)) || (decide ((s.length : Int) > 10))) || ((decide ((s.length : Int) > 1)) && ((bt s 0) == 48))))] ?_ ?_
  · refine JO.cs 13 ((cmpS .eql s ([] : Str)) || (decide ((s.length : Int) > 10))) (fun hc3 => ?_) (fun hc3 => ?_)
    · refine JO.p 17 [(22, .bool true)] ?_
      refine JO.end_ ?_
      exact JK.invQ (Sub.of (by (try rw [hc3]); first | done | kernel_rfl))
    · refine JO.p 12 [(17, .bool (decide ((s.length : Int) > 1)))] ?_
      refine JO.jq 16 [(0, .string (ba s)), (13, .bool false), (21, .bool ((decide ((s.length : Int) > 1)) && ((bt s 0) == 48)))] ?_ ?_
      · refine JO.cs 17 (decide ((s.length : Int) > 1)) (fun hc4 => ?_) (fun hc4 => ?_)
        · refine JO.p 13 [(18, .string (ba s))] ?_
          refine JO.y 13 (Yld.ix .i64 s 0 (q2 ⟨hc3, of_decide_eq_true hc4⟩)) ?_
          refine JO.p 16 [(21, .bool ((bt s 0) == 48))] ?_
          refine JO.end_ ?_
          exact JK.invQ (Sub.of (by (try rw [hc3]); (try rw [hc4]); first | done | kernel_rfl))
        · refine JO.p 16 [(21, .bool false)] ?_
          refine JO.end_ ?_
          exact JK.invQ (Sub.of (by (try rw [hc3]); (try rw [hc4]); first | done | kernel_rfl))
      refine JO.p 17 [(22, .bool ((decide ((s.length : Int) > 1)) && ((bt s 0) == 48)))] ?_
      refine JO.end_ ?_
      exact JK.invQ (Sub.of (by (try rw [hc3]); first | done | kernel_rfl))
  refine JO.end_ (JC.next ?_)
  refine JC.cd (((cmpS .eql s ([] : Str)) || (decide ((s.length : Int) > 10))) || ((decide ((s.length : Int) > 1)) && ((bt s 0) == 48))) (fun hb => ?_) (fun hb => ?_)
  · have H := H.1 (hb)
    refine JC.seq (JC.region ?_)
    refine JO.p 2 [(2, .int .i64 0), (3, .bool false)] ?_
    refine JO.end_ (JC.next (JC.ret ?_))
    exact JK.retG2 (.int .i64 0) (.bool false) rfl RVal.s RVal.s ⟨0, false, by kernel_rfl, H⟩
  · have H := H.2 (hb)
    refine JC.skip (JC.next (JC.seq (JC.region ?_)))
    refine JO.p 1 [(4, .int .i64 0)] ?_
    refine JO.end_ (JC.next (JC.seq (JC.seq (JC.region ?_))))
    refine JO.p 1 [(5, .int .i64 0)] ?_
    refine JO.end_ (JC.next (JC.block ?_))
    obtain ⟨I8, μI8, hI8, H⟩ := H
    refine JC.loop (S := Int × Int) (fun s5 => [(0, .string (ba s)), (4, .int .i64 s5.1), (5, .int .i64 s5.2)]) (fun s5 h' => KeepB [] h' ∧ I8 s5 h') μI8 (0, 0) Sub.kk ⟨KeepB.nil _, hI8⟩ ?_
    rintro s5 h6 ⟨hB, hI⟩
    have H := H s5 h6 hI
    refine JC.seq (JC.seq (JC.region ?_))
    refine JO.p 4 [(26, .bool (decide (s5.2 < (s.length : Int))))] ?_
    refine JO.end_ (JC.next ?_)
    refine JC.cd (decide (s5.2 < (s.length : Int))) (fun hb => ?_) (fun hb => ?_)
    · have H := H.1 (of_decide_eq_true hb)
      refine JC.skip (JC.next (JC.seq (JC.block (JC.seq (JC.seq (JC.region ?_))))))
      refine JO.p 2 [(29, .string (ba s)), (30, .int .i64 s5.2)] ?_
      obtain ⟨q9, H⟩ := H
      refine JO.y 2 (Yld.ix .i64 s s5.2 q9) ?_
      refine JO.p 5 [(33, .bool (decide ((bt s s5.2) < 48)))] ?_
      obtain ⟨q10, H⟩ := H
      refine JO.jq 10 [(0, .string (ba s)), (4, .int .i64 s5.1), (5, .int .i64 s5.2), (38, .bool ((decide ((bt s s5.2) < 48)) || (decide ((bt s s5.2) > 57))))] ?_ ?_
      · refine JO.cs 33 (decide ((bt s s5.2) < 48)) (fun hc11 => ?_) (fun hc11 => ?_)
        · refine JO.p 10 [(38, .bool true)] ?_
          refine JO.end_ ?_
          exact JK.invQ (Sub.of (by (try rw [hc11]); first | done | kernel_rfl))
        · refine JO.p 7 [(34, .string (ba s)), (35, .int .i64 s5.2)] ?_
          refine JO.y 7 (Yld.ix .i64 s s5.2 (q10 (of_decide_eq_false hc11))) ?_
          refine JO.p 10 [(38, .bool (decide ((bt s s5.2) > 57)))] ?_
          refine JO.end_ ?_
          exact JK.invQ (Sub.of (by (try rw [hc11]); first | done | kernel_rfl))
      refine JO.end_ (JC.next ?_)
      refine JC.cd ((decide ((bt s s5.2) < 48)) || (decide ((bt s s5.2) > 57))) (fun hb => ?_) (fun hb => ?_)
      · have H := H.1 (hb)
        refine JC.seq (JC.region ?_)
        refine JO.p 2 [(2, .int .i64 0), (3, .bool false)] ?_
        refine JO.end_ (JC.next (JC.ret ?_))
        exact JK.retG2 (.int .i64 0) (.bool false) rfl RVal.s RVal.s ⟨0, false, by kernel_rfl, H⟩
      · have H := H.2 (hb)
        refine JC.skip (JC.next (JC.region ?_))
        refine JO.p 4 [(40, .int .i64 (IntKind.i64.wrap (10 * s5.1))), (41, .string (ba s)), (42, .int .i64 s5.2)] ?_
        obtain ⟨q12, H⟩ := H
        refine JO.y 4 (Yld.ix .i64 s s5.2 q12) ?_
        refine JO.p 8 [(46, .int .i64 (IntKind.i64.wrap ((IntKind.i64.wrap (10 * s5.1)) + (IntKind.i64.wrap (IntKind.u8.wrap ((bt s s5.2) - 48))))))] ?_
        let x13 : Int := IntKind.i64.wrap ((IntKind.i64.wrap (10 * s5.1)) + (IntKind.i64.wrap (IntKind.u8.wrap ((bt s s5.2) - 48))))
        have H := H x13 rfl
        refine JO.p 9 [(4, .int .i64 x13)] ?_
        refine JO.end_ (JC.next (JC.region ?_))
        refine JO.p 2 [(28, .int .i64 (IntKind.i64.wrap (s5.2 + 1)))] ?_
        let x14 : Int := IntKind.i64.wrap (s5.2 + 1)
        have H := H x14 rfl
        refine JO.p 3 [(5, .int .i64 x14)] ?_
        refine JO.end_ ?_
        exact JK.inv (x13, x14) Sub.kk ⟨⟨(KeepB.nil _), H.1⟩, H.2⟩
    · have H := H.2 (of_decide_eq_false hb)
      refine JC.exit rfl ?_
      refine JC.next (JC.seq (JC.region ?_))
      refine JO.p 5 [(2, .int .i64 s5.1), (3, .bool (decide (s5.1 ≤ 1073741824)))] ?_
      refine JO.end_ (JC.next (JC.ret ?_))
      exact JK.retG2 (.int .i64 s5.1) (.bool (decide (s5.1 ≤ 1073741824))) rfl RVal.s RVal.s ⟨s5.1, decide (s5.1 ≤ 1073741824), by kernel_rfl, H⟩

def F_tenureref05_Read.body (s : Str) (h : Hp) (K : V_api_Term → Int → Hp → Prop) (X : Chain → Hp → Prop) : Prop :=
∀ (p1 : Nat) (h2 : Hp), New p1 h h2 → Ev [p1] h h2 → AllocW h2 90 [.string (ba s), .int .i64 0, .bool false] (fun (p3 : Nat) (h4 : Hp) => (LtAll [p1] h4 → F_tenureref05_reader_term.call (some ⟨p3, 0, none⟩) h4 (fun (r5 : V_api_Term) (h6 : Hp) => SameOn [p1] h4 h6 ∧ ∀ (p7 : Nat) (h9 : Hp), New p7 h6 h9 → Ev [p7, p1] h6 h9 → LoadW h9 ((⟨p3, 0, none⟩ : Addr).add 2) cB (fun (x10 : Bool) => LoadG (x10 = false) h9 ((⟨p3, 0, none⟩ : Addr).add 1) (cI .i64) (fun (x11 : Int) => ((x10 || (decide (x11 < (s.length : Int)))) = true → ∀ (h13 : Hp), Ev [p7, p1] h9 h13 → K (⟨0, 0, ([] : Str), (⟨none, 0, 0⟩ : Sl)⟩ : V_api_Term) 4 h13) ∧
((x10 || (decide (x11 < (s.length : Int)))) = false → (LtAll [p7, p1] h9 → F_tenureref02_Check.call r5 h9 (fun (r14 : Int) (h15 : Hp) => SameOn [p7, p1] h9 h15 ∧ ((r14 == 2) = true → ∀ (h16 : Hp), Ev [p7, p1] h15 h16 → K (⟨0, 0, ([] : Str), (⟨none, 0, 0⟩ : Sl)⟩ : V_api_Term) 4 h16) ∧
((r14 == 2) = false → ((r14 != 0) = true → ∀ (h17 : Hp), Ev [p7, p1] h15 h17 → K (⟨0, 0, ([] : Str), (⟨none, 0, 0⟩ : Sl)⟩ : V_api_Term) r14 h17) ∧
((r14 != 0) = false → ∀ (h18 : Hp), Ev [p7, p1] h15 h18 → K r5 0 h18))) X))))) X))
theorem F_tenureref05_Read.sound {s : Str} {h : Hp} {K : V_api_Term → Int → Hp → Prop} {X : Chain → Hp → Prop} (H : F_tenureref05_Read.body s h K X) : F_tenureref05_Read.call s h K X := by
  unfold F_tenureref05_Read.body at H
  refine CallH.of Tryz.func30 rfl rfl fun w0 hw0 => ?_
  refine JC.seq (JC.region ?_)
  refine JO.s 0 (OpOk.bp [.int .i64 0, .int .i64 0, .string (ba ([] : Str)), sl (⟨none, 0, 0⟩ : Sl)] 24 ?_)
  intro p1 h2 hp hh
  have hE := Ev.refl [] h
  have hB := KeepB.nil h
  have hNp1 : Array.size h ≤ p1 := hp ▸ hE.size
  have hB : KeepB [(p1, .cells #[.int .i64 0, .int .i64 0, .string (ba ([] : Str)), sl (⟨none, 0, 0⟩ : Sl)] 24 (0, 0))] h2 := hB.push hp hh
  have hE := hE.push hp hh
  refine JO.p 2 [(3, .int .i64 0)] ?_
  refine JO.end_ (JC.next (JC.seq (JC.region ?_)))
  refine JO.p 2 [(8, .agg #[.string (ba s), .int .i64 0, .bool false])] ?_
  have H := H p1 h2 ⟨hNp1, hB.l 0⟩ hE
  have hE := Ev.refl [p1] h2
  refine JO.s 2 (OpOk.bp [.string (ba s), .int .i64 0, .bool false] 90 ?_)
  intro p3 h4 hp hh
  have H := H p3 h4 hp hh
  have hB := hB.grow hh
  have hE := Ev.refl [p1] h4
  refine JO.p 4 [(4, .pointer (some ⟨p3, 0, none⟩))] ?_
  refine JO.end_ (JC.next (JC.seq (JC.region ?_)))
  refine JO.p 1 [(10, .pointer (some ⟨p3, 0, none⟩))] ?_
  have H := H hB.ltAll
  refine JO.s 1 (OpOk.c (CallH.mono H ?_ fun _ _ hx => hx))
  rintro _ h6 ⟨r5, rfl, hS, H⟩
  have hB := hB.same hS
  have hE := Ev.refl [p1] h6
  refine JO.s 2 (OpOk.bp [.int .i64 0, .int .i64 0, .string (ba ([] : Str)), sl (⟨none, 0, 0⟩ : Sl)] 24 ?_)
  intro p7 h8 hp hh
  have hNp7 : Array.size h6 ≤ p7 := hp ▸ hE.size
  have hB : KeepB [(p7, .cells #[.int .i64 0, .int .i64 0, .string (ba ([] : Str)), sl (⟨none, 0, 0⟩ : Sl)] 24 (0, 0)), (p1, .cells #[.int .i64 0, .int .i64 0, .string (ba ([] : Str)), sl (⟨none, 0, 0⟩ : Sl)] 24 (0, 0))] h8 := hB.push hp hh
  have hE := hE.push hp hh
  refine JO.s 3 (OpOk.st [.int .i64 r5.Kind, .int .i64 r5.N, .string (ba r5.S), sl r5.L] (KeepB.st hB 0 0 4) ?_)
  intro h9 hh
  have hE := hE.set hh (by simp [add_block])
  have hB : KeepB [(p7, .cells #[.int .i64 r5.Kind, .int .i64 r5.N, .string (ba r5.S), sl r5.L] 24 (0, 0)), (p1, .cells #[.int .i64 0, .int .i64 0, .string (ba ([] : Str)), sl (⟨none, 0, 0⟩ : Sl)] 24 (0, 0))] h9 := hB.set 0 rfl (off := 0) rfl hh
  refine JO.end_ (JC.next (JC.seq (JC.seq (JC.region ?_))))
  refine JO.p 3 [(14, .pointer (some ((⟨p3, 0, none⟩ : Addr).add 2)))] ?_
  have H := H p7 h9 ⟨hNp7, hB.l 0⟩ hE
  have hE := Ev.refl [p7, p1] h9
  obtain ⟨x10, lx10, H⟩ := H
  refine JO.y 3 (Yld.le lx10) ?_
  refine JO.p 5 [(16, .bool x10)] ?_
  obtain ⟨x11, lx11, H⟩ := H
  refine JO.jq 13 [(2, .pointer (some ⟨p1, 0, none⟩)), (5, .pointer (some ⟨p7, 0, none⟩)), (24, .bool (x10 || (decide (x11 < (s.length : Int)))))] ?_ ?_
  · refine JO.cs 16 x10 (fun hc12 => ?_) (fun hc12 => ?_)
    · refine JO.p 13 [(24, .bool true)] ?_
      refine JO.end_ ?_
      exact JK.invQ (Sub.of (by (try rw [hc12]); first | done | kernel_rfl))
    · refine JO.p 8 [(19, .pointer (some ((⟨p3, 0, none⟩ : Addr).add 1)))] ?_
      refine JO.y 8 (Yld.le (lx11 (hc12))) ?_
      refine JO.p 13 [(24, .bool (decide (x11 < (s.length : Int))))] ?_
      refine JO.end_ ?_
      exact JK.invQ (Sub.of (by (try rw [hc12]); first | done | kernel_rfl))
  refine JO.end_ (JC.next ?_)
  refine JC.cd (x10 || (decide (x11 < (s.length : Int)))) (fun hb => ?_) (fun hb => ?_)
  · have H := H.1 (hb)
    refine JC.seq (JC.region ?_)
    refine JO.p 1 [(25, .agg #[.int .i64 0, .int .i64 0, .string (ba ([] : Str)), sl (⟨none, 0, 0⟩ : Sl)])] ?_
    refine JO.s 1 (OpOk.st [.int .i64 0, .int .i64 0, .string (ba ([] : Str)), sl (⟨none, 0, 0⟩ : Sl)] (KeepB.st hB 1 0 4) ?_)
    intro h13 hh
    have hE := hE.set hh (by simp [add_block])
    have hB : KeepB [(p7, .cells #[.int .i64 r5.Kind, .int .i64 r5.N, .string (ba r5.S), sl r5.L] 24 (0, 0)), (p1, .cells #[.int .i64 0, .int .i64 0, .string (ba ([] : Str)), sl (⟨none, 0, 0⟩ : Sl)] 24 (0, 0))] h13 := hB.set 1 rfl (off := 0) rfl hh
    refine JO.p 3 [(3, .int .i64 4)] ?_
    refine JO.end_ (JC.next (JC.ret ?_))
    have H := H h13 hE
    have hE := Ev.refl [p7, p1] h13
    exact JK.retG2 (.agg #[.int .i64 0, .int .i64 0, .string (ba ([] : Str)), sl (⟨none, 0, 0⟩ : Sl)]) (.int .i64 4) rfl (RVal.bN p1 24 hB 1) RVal.s ⟨(⟨0, 0, ([] : Str), (⟨none, 0, 0⟩ : Sl)⟩ : V_api_Term), 4, by kernel_rfl, H⟩
  · have H := H.2 (hb)
    refine JC.skip (JC.next (JC.seq (JC.region ?_)))
    refine JO.y 0 (Yld.lne (KeepB.c hB 0 0 [.int .i64 r5.Kind, .int .i64 r5.N, .string (ba r5.S), sl r5.L])) ?_
    have H := H hB.ltAll
    refine JO.s 1 (OpOk.c (CallH.mono H ?_ fun _ _ hx => hx))
    rintro _ h15 ⟨r14, rfl, hS, H⟩
    have hB := hB.same hS
    have hE := Ev.refl [p7, p1] h15
    refine JO.p 3 [(6, .int .i64 r14)] ?_
    refine JO.end_ (JC.next (JC.seq (JC.seq (JC.region ?_))))
    refine JO.p 2 [(29, .bool (r14 == 2))] ?_
    refine JO.end_ (JC.next ?_)
    refine JC.cd (r14 == 2) (fun hb => ?_) (fun hb => ?_)
    · have H := H.1 (hb)
      refine JC.seq (JC.region ?_)
      refine JO.p 1 [(30, .agg #[.int .i64 0, .int .i64 0, .string (ba ([] : Str)), sl (⟨none, 0, 0⟩ : Sl)])] ?_
      refine JO.s 1 (OpOk.st [.int .i64 0, .int .i64 0, .string (ba ([] : Str)), sl (⟨none, 0, 0⟩ : Sl)] (KeepB.st hB 1 0 4) ?_)
      intro h16 hh
      have hE := hE.set hh (by simp [add_block])
      have hB : KeepB [(p7, .cells #[.int .i64 r5.Kind, .int .i64 r5.N, .string (ba r5.S), sl r5.L] 24 (0, 0)), (p1, .cells #[.int .i64 0, .int .i64 0, .string (ba ([] : Str)), sl (⟨none, 0, 0⟩ : Sl)] 24 (0, 0))] h16 := hB.set 1 rfl (off := 0) rfl hh
      refine JO.p 3 [(3, .int .i64 4)] ?_
      refine JO.end_ (JC.next (JC.ret ?_))
      have H := H h16 hE
      have hE := Ev.refl [p7, p1] h16
      exact JK.retG2 (.agg #[.int .i64 0, .int .i64 0, .string (ba ([] : Str)), sl (⟨none, 0, 0⟩ : Sl)]) (.int .i64 4) rfl (RVal.bN p1 24 hB 1) RVal.s ⟨(⟨0, 0, ([] : Str), (⟨none, 0, 0⟩ : Sl)⟩ : V_api_Term), 4, by kernel_rfl, H⟩
    · have H := H.2 (hb)
      refine JC.skip (JC.next (JC.seq (JC.seq (JC.region ?_))))
      refine JO.p 2 [(32, .bool (r14 != 0))] ?_
      refine JO.end_ (JC.next ?_)
      refine JC.cd (r14 != 0) (fun hb => ?_) (fun hb => ?_)
      · have H := H.1 (hb)
        refine JC.seq (JC.region ?_)
        refine JO.p 2 [(33, .agg #[.int .i64 0, .int .i64 0, .string (ba ([] : Str)), sl (⟨none, 0, 0⟩ : Sl)]), (34, .int .i64 r14)] ?_
        refine JO.s 2 (OpOk.st [.int .i64 0, .int .i64 0, .string (ba ([] : Str)), sl (⟨none, 0, 0⟩ : Sl)] (KeepB.st hB 1 0 4) ?_)
        intro h17 hh
        have hE := hE.set hh (by simp [add_block])
        have hB : KeepB [(p7, .cells #[.int .i64 r5.Kind, .int .i64 r5.N, .string (ba r5.S), sl r5.L] 24 (0, 0)), (p1, .cells #[.int .i64 0, .int .i64 0, .string (ba ([] : Str)), sl (⟨none, 0, 0⟩ : Sl)] 24 (0, 0))] h17 := hB.set 1 rfl (off := 0) rfl hh
        refine JO.p 4 [(3, .int .i64 r14)] ?_
        refine JO.end_ (JC.next (JC.ret ?_))
        have H := H h17 hE
        have hE := Ev.refl [p7, p1] h17
        exact JK.retG2 (.agg #[.int .i64 0, .int .i64 0, .string (ba ([] : Str)), sl (⟨none, 0, 0⟩ : Sl)]) (.int .i64 r14) rfl (RVal.bN p1 24 hB 1) RVal.s ⟨(⟨0, 0, ([] : Str), (⟨none, 0, 0⟩ : Sl)⟩ : V_api_Term), r14, by kernel_rfl, H⟩
      · have H := H.2 (hb)
        refine JC.skip (JC.next (JC.seq (JC.region ?_)))
        refine JO.y 0 (Yld.lne (KeepB.c hB 0 0 [.int .i64 r5.Kind, .int .i64 r5.N, .string (ba r5.S), sl r5.L])) ?_
        refine JO.s 1 (OpOk.st [.int .i64 r5.Kind, .int .i64 r5.N, .string (ba r5.S), sl r5.L] (KeepB.st hB 1 0 4) ?_)
        intro h18 hh
        have hE := hE.set hh (by simp [add_block])
        have hB : KeepB [(p7, .cells #[.int .i64 r5.Kind, .int .i64 r5.N, .string (ba r5.S), sl r5.L] 24 (0, 0)), (p1, .cells #[.int .i64 r5.Kind, .int .i64 r5.N, .string (ba r5.S), sl r5.L] 24 (0, 0))] h18 := hB.set 1 rfl (off := 0) rfl hh
        refine JO.p 3 [(3, .int .i64 0)] ?_
        refine JO.end_ (JC.next (JC.ret ?_))
        have H := H h18 hE
        have hE := Ev.refl [p7, p1] h18
        exact JK.retG2 (.agg #[.int .i64 r5.Kind, .int .i64 r5.N, .string (ba r5.S), sl r5.L]) (.int .i64 0) rfl (RVal.bN p1 24 hB 1) RVal.s ⟨r5, 0, by kernel_rfl, H⟩

def F_tenurekit_SameTerm.body (a : V_api_Term) (b : V_api_Term) (h : Hp) (K : Bool → Hp → Prop) (X : Chain → Hp → Prop) : Prop :=
∀ (p1 : Nat) (p3 : Nat) (h4 : Hp), New p1 h h4 → New p3 h h4 → Ev [p3, p1] h h4 → JoinW (fun (k7 : Bool → Hp → Prop) =>
((((a.Kind == b.Kind) && (a.N == b.N)) && (cmpS .eql a.S b.S)) = true → (LtAll [p3, p1] h4 → F_tenurekit_SameTerms.call a.L b.L h4 (fun (r11 : Bool) (h12 : Hp) => SameOn [p3, p1] h4 h12 ∧ k7 r11 h12) X)) ∧
((((a.Kind == b.Kind) && (a.N == b.N)) && (cmpS .eql a.S b.S)) = false → k7 false h4)) (fun (y8 : Bool) h9 =>
K y8 h9)
theorem F_tenurekit_SameTerm.sound {a : V_api_Term} {b : V_api_Term} {h : Hp} {K : Bool → Hp → Prop} {X : Chain → Hp → Prop} (H : F_tenurekit_SameTerm.body a b h K X) : F_tenurekit_SameTerm.call a b h K X := by
  unfold F_tenurekit_SameTerm.body at H
  refine CallH.of Tryz.func31 rfl rfl fun w0 hw0 => ?_
  refine JC.seq (JC.region ?_)
  refine JO.s 0 (OpOk.bp [.int .i64 a.Kind, .int .i64 a.N, .string (ba a.S), sl a.L] 24 ?_)
  intro p1 h2 hp hh
  have hE := Ev.refl [] h
  have hB := KeepB.nil h
  have hNp1 : Array.size h ≤ p1 := hp ▸ hE.size
  have hB : KeepB [(p1, .cells #[.int .i64 a.Kind, .int .i64 a.N, .string (ba a.S), sl a.L] 24 (0, 0))] h2 := hB.push hp hh
  have hE := hE.push hp hh
  refine JO.s 1 (OpOk.bp [.int .i64 b.Kind, .int .i64 b.N, .string (ba b.S), sl b.L] 24 ?_)
  intro p3 h4 hp hh
  have hNp3 : Array.size h ≤ p3 := hp ▸ hE.size
  have hB : KeepB [(p3, .cells #[.int .i64 b.Kind, .int .i64 b.N, .string (ba b.S), sl b.L] 24 (0, 0)), (p1, .cells #[.int .i64 a.Kind, .int .i64 a.N, .string (ba a.S), sl a.L] 24 (0, 0))] h4 := hB.push hp hh
  have hE := hE.push hp hh
  refine JO.p 3 [(4, .bool false)] ?_
  refine JO.end_ (JC.next (JC.seq (JC.region ?_)))
  refine JO.p 1 [(5, .pointer (some ((⟨p1, 0, none⟩ : Addr).add 0)))] ?_
  refine JO.y 1 (Yld.le (KeepB.c hB 1 0 [.int .i64 a.Kind])) ?_
  refine JO.p 3 [(7, .pointer (some ((⟨p3, 0, none⟩ : Addr).add 0)))] ?_
  refine JO.y 3 (Yld.le (KeepB.c hB 0 0 [.int .i64 b.Kind])) ?_
  refine JO.p 6 [(10, .bool (a.Kind == b.Kind))] ?_
  refine JO.jq 12 [(2, .pointer (some ⟨p1, 0, none⟩)), (3, .pointer (some ⟨p3, 0, none⟩)), (16, .bool ((a.Kind == b.Kind) && (a.N == b.N)))] ?_ ?_
  · refine JO.cs 10 (a.Kind == b.Kind) (fun hc5 => ?_) (fun hc5 => ?_)
    · refine JO.p 7 [(11, .pointer (some ((⟨p1, 0, none⟩ : Addr).add 1)))] ?_
      refine JO.y 7 (Yld.le (KeepB.c hB 1 1 [.int .i64 a.N])) ?_
      refine JO.p 9 [(13, .pointer (some ((⟨p3, 0, none⟩ : Addr).add 1)))] ?_
      refine JO.y 9 (Yld.le (KeepB.c hB 0 1 [.int .i64 b.N])) ?_
      refine JO.p 12 [(16, .bool (a.N == b.N))] ?_
      refine JO.end_ ?_
      exact JK.invQ (Sub.of (by (try rw [hc5]); first | done | kernel_rfl))
    · refine JO.p 12 [(16, .bool false)] ?_
      refine JO.end_ ?_
      exact JK.invQ (Sub.of (by (try rw [hc5]); first | done | kernel_rfl))
  refine JO.p 13 [(17, .bool ((a.Kind == b.Kind) && (a.N == b.N)))] ?_
  refine JO.jq 19 [(2, .pointer (some ⟨p1, 0, none⟩)), (3, .pointer (some ⟨p3, 0, none⟩)), (23, .bool (((a.Kind == b.Kind) && (a.N == b.N)) && (cmpS .eql a.S b.S)))] ?_ ?_
  · refine JO.cs 17 ((a.Kind == b.Kind) && (a.N == b.N)) (fun hc6 => ?_) (fun hc6 => ?_)
    · refine JO.p 14 [(18, .pointer (some ((⟨p1, 0, none⟩ : Addr).add 2)))] ?_
      refine JO.y 14 (Yld.le (KeepB.c hB 1 2 [.string (ba a.S)])) ?_
      refine JO.p 16 [(20, .pointer (some ((⟨p3, 0, none⟩ : Addr).add 2)))] ?_
      refine JO.y 16 (Yld.le (KeepB.c hB 0 2 [.string (ba b.S)])) ?_
      refine JO.y 17 (Yld.cp .eql a.S b.S) ?_
      refine JO.p 19 [(23, .bool (cmpS .eql a.S b.S))] ?_
      refine JO.end_ ?_
      exact JK.invQ (Sub.of (by (try rw [hc6]); first | done | kernel_rfl))
    · refine JO.p 19 [(23, .bool false)] ?_
      refine JO.end_ ?_
      exact JK.invQ (Sub.of (by (try rw [hc6]); first | done | kernel_rfl))
  refine JO.p 20 [(24, .bool (((a.Kind == b.Kind) && (a.N == b.N)) && (cmpS .eql a.S b.S)))] ?_
  have H := H p1 p3 h4 ⟨hNp1, hB.l 1⟩ ⟨hNp3, hB.l 0⟩ hE
  have hE := Ev.refl [p3, p1] h4
  obtain ⟨k7, H, Hk7⟩ := H
  refine JO.jn (S := Bool) 26 (fun y8 => [(30, .bool y8)]) (fun y8 h' => KeepB [(p3, .cells #[.int .i64 b.Kind, .int .i64 b.N, .string (ba b.S), sl b.L] 24 (0, 0)), (p1, .cells #[.int .i64 a.Kind, .int .i64 a.N, .string (ba a.S), sl a.L] 24 (0, 0))] h' ∧ k7 y8 h') ?_ ?_
  · refine JO.cs 24 (((a.Kind == b.Kind) && (a.N == b.N)) && (cmpS .eql a.S b.S)) (fun hc10 => ?_) (fun hc10 => ?_)
    · have H := H.1 (hc10)
      refine JO.p 21 [(25, .pointer (some ((⟨p1, 0, none⟩ : Addr).add 3)))] ?_
      refine JO.y 21 (Yld.le (KeepB.c hB 1 3 [sl a.L])) ?_
      refine JO.p 23 [(27, .pointer (some ((⟨p3, 0, none⟩ : Addr).add 3)))] ?_
      refine JO.y 23 (Yld.le (KeepB.c hB 0 3 [sl b.L])) ?_
      have H := H hB.ltAll
      refine JO.s 24 (OpOk.c (CallH.mono H ?_ fun _ _ hx => hx))
      rintro _ h12 ⟨r11, rfl, hS, H⟩
      have hB := hB.same hS
      have hE := Ev.refl [p3, p1] h12
      refine JO.p 26 [(30, .bool r11)] ?_
      refine JO.end_ ?_
      exact JK.inv r11 (Sub.of (by (try rw [hc10]); first | done | kernel_rfl)) ⟨hB, H⟩
    · have H := H.2 (hc10)
      refine JO.p 26 [(30, .bool false)] ?_
      refine JO.end_ ?_
      exact JK.inv false (Sub.of (by (try rw [hc10]); first | done | kernel_rfl)) ⟨hB, H⟩
  rintro y8 h9 ⟨hB, hk⟩
  have H := Hk7 y8 h9 hk
  have hE := Ev.refl [p3, p1] h9
  refine JO.p 27 [(4, .bool y8)] ?_
  refine JO.end_ (JC.next (JC.ret ?_))
  exact JK.retG1 (.bool y8) rfl RVal.s ⟨y8, by kernel_rfl, H⟩

def F_tenurekit_SameTerms.body (a : Sl) (b : Sl) (h : Hp) (K : Bool → Hp → Prop) (X : Chain → Hp → Prop) : Prop :=
(((a.len : Int) != (b.len : Int)) = true → K false h) ∧
(((a.len : Int) != (b.len : Int)) = false → LoopW (fun (s1 : Int) h2 next3 =>
(s1 < (a.len : Int) → IdxW a s1 (fun (b5 : Addr) => LoadW h2 (b5.add (s1.toNat * 4)) V_api_Term.cells (fun (x6 : V_api_Term) => IdxW b s1 (fun (b7 : Addr) => LoadW h2 (b7.add (s1.toNat * 4)) V_api_Term.cells (fun (x8 : V_api_Term) => F_tenurekit_SameTerm.call x6 x8 h2 (fun (r9 : Bool) (h10 : Hp) => ((!r9) = true → K false h10) ∧
((!r9) = false → ∀ (x11 : Int), x11 = IntKind.i64.wrap (s1 + 1) → next3 x11 h10)) X))))) ∧
(¬ (s1 < (a.len : Int)) → K true h2)) 0 h)
theorem F_tenurekit_SameTerms.sound {a : Sl} {b : Sl} {h : Hp} {K : Bool → Hp → Prop} {X : Chain → Hp → Prop} (H : F_tenurekit_SameTerms.body a b h K X) : F_tenurekit_SameTerms.call a b h K X := by
  unfold F_tenurekit_SameTerms.body at H
  refine CallH.of Tryz.func32 rfl rfl fun w0 hw0 => ?_
  refine JC.seq (JC.region ?_)
  refine JO.p 1 [(4, .bool false)] ?_
  refine JO.end_ (JC.next (JC.seq (JC.seq (JC.region ?_))))
  refine JO.p 5 [(10, .bool ((a.len : Int) != (b.len : Int)))] ?_
  refine JO.end_ (JC.next ?_)
  refine JC.cd ((a.len : Int) != (b.len : Int)) (fun hb => ?_) (fun hb => ?_)
  · have H := H.1 (hb)
    refine JC.seq (JC.region ?_)
    refine JO.p 1 [(4, .bool false)] ?_
    refine JO.end_ (JC.next (JC.ret ?_))
    exact JK.retG1 (.bool false) rfl RVal.s ⟨false, by kernel_rfl, H⟩
  · have H := H.2 (hb)
    refine JC.skip (JC.next (JC.seq (JC.seq (JC.region ?_))))
    refine JO.p 1 [(5, .int .i64 0)] ?_
    refine JO.end_ (JC.next (JC.block ?_))
    obtain ⟨I4, μI4, hI4, H⟩ := H
    refine JC.loop (S := Int) (fun s1 => [(0, sl a), (1, sl b), (5, .int .i64 s1)]) (fun s1 h' => KeepB [] h' ∧ I4 s1 h') μI4 0 Sub.kk ⟨KeepB.nil _, hI4⟩ ?_
    rintro s1 h2 ⟨hB, hI⟩
    have H := H s1 h2 hI
    refine JC.seq (JC.seq (JC.region ?_))
    refine JO.p 4 [(14, .bool (decide (s1 < (a.len : Int))))] ?_
    refine JO.end_ (JC.next ?_)
    refine JC.cd (decide (s1 < (a.len : Int))) (fun hb => ?_) (fun hb => ?_)
    · have H := H.1 (of_decide_eq_true hb)
      refine JC.skip (JC.next (JC.seq (JC.block (JC.seq ?_))))
      refine JC.rd 10 ?_
      refine JD.rr 0 (sl a) ?_
      refine JD.rr 1 (.int .i64 s1) ?_
      obtain ⟨qb5, qb5', b5, eb5, H⟩ := H
      refine JD.t 2 (Yld.ia 24 4 .i64 a b5 s1 ⟨qb5, qb5'⟩ eb5) ?_
      obtain ⟨x6, lx6, H⟩ := H
      refine JD.hold (HoldS.cells 3 lx6) ?_
      refine JD.t 3 Yld.lnh ?_
      refine JD.rr 4 (sl b) ?_
      refine JD.rr 5 (.int .i64 s1) ?_
      obtain ⟨qb7, qb7', b7, eb7, H⟩ := H
      refine JD.t 6 (Yld.ia 24 4 .i64 b b7 s1 ⟨qb7, qb7'⟩ eb7) ?_
      obtain ⟨x8, lx8, H⟩ := H
      refine JD.hold (HoldS.cells 7 lx8) ?_
      refine JD.t 7 Yld.lnh ?_
      refine JD.o 8 (OpOk.c (CallH.mono H ?_ fun _ _ hx => hx))
      rintro _ h10 ⟨r9, rfl, H⟩
      refine ⟨(HoldS.drop 7 8 (HoldS.drop 3 8 HoldS.nil)), ?_⟩
      refine JD.rr 9 (.bool (!r9)) ?_
      refine JD.e ?_
      refine JC.next ?_
      refine JC.cd (!r9) (fun hb => ?_) (fun hb => ?_)
      · have H := H.1 (hb)
        refine JC.seq (JC.region ?_)
        refine JO.p 1 [(4, .bool false)] ?_
        refine JO.end_ (JC.next (JC.ret ?_))
        exact JK.retG1 (.bool false) rfl RVal.s ⟨false, by kernel_rfl, H⟩
      · have H := H.2 (hb)
        refine JC.skip (JC.next (JC.region ?_))
        refine JO.p 2 [(16, .int .i64 (IntKind.i64.wrap (s1 + 1)))] ?_
        let x11 : Int := IntKind.i64.wrap (s1 + 1)
        have H := H x11 rfl
        refine JO.p 3 [(5, .int .i64 x11)] ?_
        refine JO.end_ ?_
        exact JK.inv x11 Sub.kk ⟨⟨(KeepB.nil _), H.1⟩, H.2⟩
    · have H := H.2 (of_decide_eq_false hb)
      refine JC.exit rfl ?_
      refine JC.next (JC.seq (JC.region ?_))
      refine JO.p 1 [(4, .bool true)] ?_
      refine JO.end_ (JC.next (JC.ret ?_))
      exact JK.retG1 (.bool true) rfl RVal.s ⟨true, by kernel_rfl, H⟩

def F_tenurekit_I.body (n : Int) (h : Hp) (K : V_api_Term → Hp → Prop) (X : Chain → Hp → Prop) : Prop :=
∀ (p1 : Nat) (h3 : Hp), New p1 h h3 → Ev [p1] h h3 → K (⟨1, n, ([] : Str), (⟨none, 0, 0⟩ : Sl)⟩ : V_api_Term) h3
theorem F_tenurekit_I.sound {n : Int} {h : Hp} {K : V_api_Term → Hp → Prop} {X : Chain → Hp → Prop} (H : F_tenurekit_I.body n h K X) : F_tenurekit_I.call n h K X := by
  unfold F_tenurekit_I.body at H
  refine CallH.of Tryz.func33 rfl rfl fun w0 hw0 => ?_
  refine JC.seq (JC.region ?_)
  refine JO.s 0 (OpOk.bp [.int .i64 0, .int .i64 0, .string (ba ([] : Str)), sl (⟨none, 0, 0⟩ : Sl)] 24 ?_)
  intro p1 h2 hp hh
  have hE := Ev.refl [] h
  have hB := KeepB.nil h
  have hNp1 : Array.size h ≤ p1 := hp ▸ hE.size
  have hB : KeepB [(p1, .cells #[.int .i64 0, .int .i64 0, .string (ba ([] : Str)), sl (⟨none, 0, 0⟩ : Sl)] 24 (0, 0))] h2 := hB.push hp hh
  have hE := hE.push hp hh
  refine JO.end_ (JC.next (JC.seq (JC.region ?_)))
  refine JO.p 2 [(4, .agg #[.int .i64 1, .int .i64 n, .string (ba ([] : Str)), sl (⟨none, 0, 0⟩ : Sl)])] ?_
  refine JO.s 2 (OpOk.st [.int .i64 1, .int .i64 n, .string (ba ([] : Str)), sl (⟨none, 0, 0⟩ : Sl)] (KeepB.st hB 0 0 4) ?_)
  intro h3 hh
  have hE := hE.set hh (by simp [add_block])
  have hB : KeepB [(p1, .cells #[.int .i64 1, .int .i64 n, .string (ba ([] : Str)), sl (⟨none, 0, 0⟩ : Sl)] 24 (0, 0))] h3 := hB.set 0 rfl (off := 0) rfl hh
  refine JO.end_ (JC.next (JC.ret ?_))
  have H := H p1 h3 ⟨hNp1, hB.l 0⟩ hE
  have hE := Ev.refl [p1] h3
  exact JK.retG1 (.agg #[.int .i64 1, .int .i64 n, .string (ba ([] : Str)), sl (⟨none, 0, 0⟩ : Sl)]) rfl (RVal.bN p1 24 hB 0) ⟨(⟨1, n, ([] : Str), (⟨none, 0, 0⟩ : Sl)⟩ : V_api_Term), by kernel_rfl, H⟩

def F_tenurekit_A.body (s : Str) (h : Hp) (K : V_api_Term → Hp → Prop) (X : Chain → Hp → Prop) : Prop :=
∀ (p1 : Nat) (h3 : Hp), New p1 h h3 → Ev [p1] h h3 → K (⟨2, 0, s, (⟨none, 0, 0⟩ : Sl)⟩ : V_api_Term) h3
theorem F_tenurekit_A.sound {s : Str} {h : Hp} {K : V_api_Term → Hp → Prop} {X : Chain → Hp → Prop} (H : F_tenurekit_A.body s h K X) : F_tenurekit_A.call s h K X := by
  unfold F_tenurekit_A.body at H
  refine CallH.of Tryz.func34 rfl rfl fun w0 hw0 => ?_
  refine JC.seq (JC.region ?_)
  refine JO.s 0 (OpOk.bp [.int .i64 0, .int .i64 0, .string (ba ([] : Str)), sl (⟨none, 0, 0⟩ : Sl)] 24 ?_)
  intro p1 h2 hp hh
  have hE := Ev.refl [] h
  have hB := KeepB.nil h
  have hNp1 : Array.size h ≤ p1 := hp ▸ hE.size
  have hB : KeepB [(p1, .cells #[.int .i64 0, .int .i64 0, .string (ba ([] : Str)), sl (⟨none, 0, 0⟩ : Sl)] 24 (0, 0))] h2 := hB.push hp hh
  have hE := hE.push hp hh
  refine JO.end_ (JC.next (JC.seq (JC.region ?_)))
  refine JO.p 2 [(4, .agg #[.int .i64 2, .int .i64 0, .string (ba s), sl (⟨none, 0, 0⟩ : Sl)])] ?_
  refine JO.s 2 (OpOk.st [.int .i64 2, .int .i64 0, .string (ba s), sl (⟨none, 0, 0⟩ : Sl)] (KeepB.st hB 0 0 4) ?_)
  intro h3 hh
  have hE := hE.set hh (by simp [add_block])
  have hB : KeepB [(p1, .cells #[.int .i64 2, .int .i64 0, .string (ba s), sl (⟨none, 0, 0⟩ : Sl)] 24 (0, 0))] h3 := hB.set 0 rfl (off := 0) rfl hh
  refine JO.end_ (JC.next (JC.ret ?_))
  have H := H p1 h3 ⟨hNp1, hB.l 0⟩ hE
  have hE := Ev.refl [p1] h3
  exact JK.retG1 (.agg #[.int .i64 2, .int .i64 0, .string (ba s), sl (⟨none, 0, 0⟩ : Sl)]) rfl (RVal.bN p1 24 hB 0) ⟨(⟨2, 0, s, (⟨none, 0, 0⟩ : Sl)⟩ : V_api_Term), by kernel_rfl, H⟩

def F_tenurelaw31_refused.body (line : Str) (want : Int) (h : Hp) (K : Bool → Hp → Prop) (X : Chain → Hp → Prop) : Prop :=
F_script_Parse.call line h (fun (r1 : V_api_Deed) (r2 : Int) (h3 : Hp) => ∀ (p4 : Nat) (h6 : Hp), New p4 h3 h6 → Ev [p4] h3 h6 → K (r2 == want) h6) X
theorem F_tenurelaw31_refused.sound {line : Str} {want : Int} {h : Hp} {K : Bool → Hp → Prop} {X : Chain → Hp → Prop} (H : F_tenurelaw31_refused.body line want h K X) : F_tenurelaw31_refused.call line want h K X := by
  unfold F_tenurelaw31_refused.body at H
  refine CallH.of Tryz.func35 rfl rfl fun w0 hw0 => ?_
  refine JC.seq (JC.region ?_)
  refine JO.p 1 [(4, .bool false)] ?_
  refine JO.end_ (JC.next (JC.seq (JC.region ?_)))
  refine JO.p 1 [(8, .string (ba line))] ?_
  refine JO.s 1 (OpOk.c (CallH.mono H ?_ fun _ _ hx => hx))
  rintro _ h3 ⟨r1, r2, rfl, H⟩
  refine JO.p 5 [(10, .agg #[.int .i64 r1.Kind, .int .i64 r1.N, .string (ba r1.Name), .int .i64 r1.T.Kind, .int .i64 r1.T.N, .string (ba r1.T.S), sl r1.T.L, sl r1.L]), (11, .int .i64 r2)] ?_
  refine JO.s 5 (OpOk.bp [.int .i64 0, .int .i64 0, .string (ba ([] : Str)), .int .i64 0, .int .i64 0, .string (ba ([] : Str)), sl (⟨none, 0, 0⟩ : Sl), sl (⟨none, 0, 0⟩ : Sl)] 26 ?_)
  intro p4 h5 hp hh
  have hE := Ev.refl [] h3
  have hB := KeepB.nil h3
  have hNp4 : Array.size h3 ≤ p4 := hp ▸ hE.size
  have hB : KeepB [(p4, .cells #[.int .i64 0, .int .i64 0, .string (ba ([] : Str)), .int .i64 0, .int .i64 0, .string (ba ([] : Str)), sl (⟨none, 0, 0⟩ : Sl), sl (⟨none, 0, 0⟩ : Sl)] 26 (0, 0))] h5 := hB.push hp hh
  have hE := hE.push hp hh
  refine JO.s 6 (OpOk.st [.int .i64 r1.Kind, .int .i64 r1.N, .string (ba r1.Name), .int .i64 r1.T.Kind, .int .i64 r1.T.N, .string (ba r1.T.S), sl r1.T.L, sl r1.L] (KeepB.st hB 0 0 8) ?_)
  intro h6 hh
  have hE := hE.set hh (by simp [add_block])
  have hB : KeepB [(p4, .cells #[.int .i64 r1.Kind, .int .i64 r1.N, .string (ba r1.Name), .int .i64 r1.T.Kind, .int .i64 r1.T.N, .string (ba r1.T.S), sl r1.T.L, sl r1.L] 26 (0, 0))] h6 := hB.set 0 rfl (off := 0) rfl hh
  refine JO.p 8 [(6, .int .i64 r2)] ?_
  refine JO.end_ (JC.next (JC.seq (JC.region ?_)))
  refine JO.p 4 [(4, .bool (r2 == want))] ?_
  refine JO.end_ (JC.next (JC.ret ?_))
  have H := H p4 h6 ⟨hNp4, hB.l 0⟩ hE
  have hE := Ev.refl [p4] h6
  exact JK.retG1 (.bool (r2 == want)) rfl RVal.s ⟨r2 == want, by kernel_rfl, H⟩

def F_strings_Builder_WriteString.body (b : Option Addr) (s : Str) (h : Hp) (K : Int → Ifc → Hp → Prop) (X : Chain → Hp → Prop) : Prop :=
F_strings_Builder_copyCheck.call b h (fun (h1 : Hp) => NilW b (fun (a2 : Addr) => LoadW h1 (a2.add 1) cL (fun (x3 : Sl) => AppSW h1 5 x3 s (fun (s4 : Sl) (h5 : Hp) => StoreW h5 (a2.add 1) [sl s4] (fun (h6 : Hp) => ∀ (x7 : Int), x7 = (s.length : Int) → K x7 none h6))))) X
theorem F_strings_Builder_WriteString.sound {b : Option Addr} {s : Str} {h : Hp} {K : Int → Ifc → Hp → Prop} {X : Chain → Hp → Prop} (H : F_strings_Builder_WriteString.body b s h K X) : F_strings_Builder_WriteString.call b s h K X := by
  unfold F_strings_Builder_WriteString.body at H
  refine CallH.of Tryz.func39 rfl rfl fun w0 hw0 => ?_
  refine JC.seq (JC.region ?_)
  refine JO.p 2 [(4, .int .i64 0), (5, ifc none)] ?_
  refine JO.end_ (JC.next (JC.seq (JC.region ?_)))
  refine JO.p 1 [(6, .pointer b)] ?_
  refine JO.s 1 (OpOk.c (CallH.mono H ?_ fun _ _ hx => hx))
  rintro _ h1 ⟨rfl, H⟩
  refine JO.end_ (JC.next (JC.seq (JC.region ?_)))
  refine JO.p 2 [(8, .pointer b), (9, .pointer b)] ?_
  obtain ⟨a2, na2, H⟩ := H
  refine JO.y 2 (Yld.np na2) ?_
  refine JO.p 4 [(11, .pointer (some (a2.add 1)))] ?_
  obtain ⟨x3, lx3, H⟩ := H
  refine JO.y 4 (Yld.le lx3) ?_
  refine JO.p 6 [(13, .string (ba s))] ?_
  refine JO.s 6 (OpOk.at H ?_)
  rintro s4 h5 H
  refine JO.y 7 (Yld.np na2) ?_
  refine JO.p 9 [(16, .pointer (some (a2.add 1)))] ?_
  obtain ⟨hs, H⟩ := H
  refine JO.s 9 (OpOk.st [sl s4] hs ?_)
  intro h6 hh
  have H := H h6 hh
  refine JO.end_ (JC.next (JC.seq (JC.region ?_)))
  refine JO.p 2 [(18, .int .i64 (s.length : Int))] ?_
  let x7 : Int := (s.length : Int)
  have H := H x7 rfl
  refine JO.p 4 [(4, .int .i64 x7), (5, ifc none)] ?_
  refine JO.end_ (JC.next (JC.ret ?_))
  exact JK.retG2 (.int .i64 x7) (ifc none) rfl RVal.s RVal.s ⟨x7, none, by kernel_rfl, H⟩

def F_term_Items.body (t : V_api_Term) (h : Hp) (K : Sl → Bool → Hp → Prop) (X : Chain → Hp → Prop) : Prop :=
∀ (p1 : Nat) (h2 : Hp), New p1 h h2 → Ev [p1] h h2 → LoopW (fun (s3 : Sl × V_api_Term) h4 next5 =>
(((s3.2.Kind == 9) && ((s3.2.L.len : Int) == 2)) = true → IdxW s3.2.L 0 (fun (b9 : Addr) => LoadW h4 (b9.add ((0 : Int).toNat * 4)) V_api_Term.cells (fun (x10 : V_api_Term) => AllocW h4 24 [.int .i64 x10.Kind, .int .i64 x10.N, .string (ba x10.S), sl x10.L] (fun (p11 : Nat) (h12 : Hp) => AppW h12 24 4 56 [.int .i64 0, .int .i64 0, .string (ba ([] : Str)), sl (⟨none, 0, 0⟩ : Sl)] s3.1 (⟨some ⟨p11, 0, none⟩, 1, 1⟩ : Sl) (fun (s13 : Sl) (h14 : Hp) => SameOn [p1] h12 h14 ∧ IdxW s3.2.L 1 (fun (b16 : Addr) => LoadW h14 (b16.add ((1 : Int).toNat * 4)) V_api_Term.cells (fun (x17 : V_api_Term) => ∀ (h18 : Hp), Ev [p1] h14 h18 → next5 (s13, x17) h18))))))) ∧
(((s3.2.Kind == 9) && ((s3.2.L.len : Int) == 2)) = false → ((s3.2.Kind != 8) = true → K (⟨none, 0, 0⟩ : Sl) false h4) ∧
((s3.2.Kind != 8) = false → K s3.1 true h4))) ((⟨none, 0, 0⟩ : Sl), t) h2
theorem F_term_Items.sound {t : V_api_Term} {h : Hp} {K : Sl → Bool → Hp → Prop} {X : Chain → Hp → Prop} (H : F_term_Items.body t h K X) : F_term_Items.call t h K X := by
  unfold F_term_Items.body at H
  refine CallH.of Tryz.func51 rfl rfl fun w0 hw0 => ?_
  refine JC.seq (JC.region ?_)
  refine JO.s 0 (OpOk.bp [.int .i64 t.Kind, .int .i64 t.N, .string (ba t.S), sl t.L] 24 ?_)
  intro p1 h2 hp hh
  have hE := Ev.refl [] h
  have hB := KeepB.nil h
  have hNp1 : Array.size h ≤ p1 := hp ▸ hE.size
  have hB : KeepB [(p1, .cells #[.int .i64 t.Kind, .int .i64 t.N, .string (ba t.S), sl t.L] 24 (0, 0))] h2 := hB.push hp hh
  have hE := hE.push hp hh
  refine JO.p 3 [(2, sl (⟨none, 0, 0⟩ : Sl)), (3, .bool false)] ?_
  refine JO.end_ (JC.next (JC.seq (JC.region ?_)))
  refine JO.p 1 [(4, sl (⟨none, 0, 0⟩ : Sl))] ?_
  refine JO.end_ (JC.next (JC.seq (JC.block ?_)))
  have H := H p1 h2 ⟨hNp1, hB.l 0⟩ hE
  have hE := Ev.refl [p1] h2
  obtain ⟨I6, μI6, hI6, H⟩ := H
  refine JC.loop (S := Sl × V_api_Term) (fun s3 => [(1, .pointer (some ⟨p1, 0, none⟩)), (4, sl s3.1)]) (fun s3 h' => KeepB [(p1, .cells #[.int .i64 s3.2.Kind, .int .i64 s3.2.N, .string (ba s3.2.S), sl s3.2.L] 24 (0, 0))] h' ∧ I6 s3 h') μI6 ((⟨none, 0, 0⟩ : Sl), t) Sub.kk ⟨hB, hI6⟩ ?_
  rintro s3 h4 ⟨hB, hI⟩
  have H := H s3 h4 hI
  have hE := Ev.refl [p1] h4
  refine JC.seq (JC.seq (JC.region ?_))
  refine JO.p 1 [(5, .pointer (some ((⟨p1, 0, none⟩ : Addr).add 0)))] ?_
  refine JO.y 1 (Yld.le (KeepB.c hB 0 0 [.int .i64 s3.2.Kind])) ?_
  refine JO.p 4 [(8, .bool (s3.2.Kind == 9))] ?_
  refine JO.jq 9 [(1, .pointer (some ⟨p1, 0, none⟩)), (4, sl s3.1), (13, .bool ((s3.2.Kind == 9) && ((s3.2.L.len : Int) == 2)))] ?_ ?_
  · refine JO.cs 8 (s3.2.Kind == 9) (fun hc7 => ?_) (fun hc7 => ?_)
    · refine JO.p 5 [(9, .pointer (some ((⟨p1, 0, none⟩ : Addr).add 3)))] ?_
      refine JO.y 5 (Yld.le (KeepB.c hB 0 3 [sl s3.2.L])) ?_
      refine JO.p 9 [(13, .bool ((s3.2.L.len : Int) == 2))] ?_
      refine JO.end_ ?_
      exact JK.invQ (Sub.of (by (try rw [hc7]); first | done | kernel_rfl))
    · refine JO.p 9 [(13, .bool false)] ?_
      refine JO.end_ ?_
      exact JK.invQ (Sub.of (by (try rw [hc7]); first | done | kernel_rfl))
  refine JO.end_ (JC.next ?_)
  refine JC.cd ((s3.2.Kind == 9) && ((s3.2.L.len : Int) == 2)) (fun hb => ?_) (fun hb => ?_)
  · have H := H.1 (hb)
    refine JC.skip (JC.next (JC.block (JC.seq (JC.region ?_))))
    refine JO.p 2 [(14, sl s3.1), (15, .pointer (some ((⟨p1, 0, none⟩ : Addr).add 3)))] ?_
    refine JO.y 2 (Yld.le (KeepB.c hB 0 3 [sl s3.2.L])) ?_
    obtain ⟨qb9, qb9', b9, eb9, H⟩ := H
    refine JO.y 3 (Yld.ia 24 4 .i64 s3.2.L b9 0 ⟨qb9, qb9'⟩ eb9) ?_
    obtain ⟨x10, lx10, H⟩ := H
    refine JO.y 4 (Yld.lne lx10) ?_
    refine JO.s 5 (OpOk.bs 1 [.int .i64 x10.Kind, .int .i64 x10.N, .string (ba x10.S), sl x10.L] 24 ?_)
    intro p11 h12 hp hh
    have H := H p11 h12 hp hh
    have hB := hB.grow hh
    have hE := Ev.refl [p1] h12
    refine JO.s 6 (OpOk.as 24 (.agg #[.int .i64 0, .int .i64 0, .string (ba ([] : Str)), sl (⟨none, 0, 0⟩ : Sl)]) H ?_)
    rintro s13 h14 ⟨hS, H⟩
    have hB := hB.same hS
    have hE := Ev.refl [p1] h14
    refine JO.p 8 [(4, sl s13)] ?_
    refine JO.end_ (JC.next (JC.region ?_))
    refine JO.p 1 [(21, .pointer (some ((⟨p1, 0, none⟩ : Addr).add 3)))] ?_
    refine JO.y 1 (Yld.le (KeepB.c hB 0 3 [sl s3.2.L])) ?_
    obtain ⟨qb16, qb16', b16, eb16, H⟩ := H
    refine JO.y 2 (Yld.ia 24 4 .i64 s3.2.L b16 1 ⟨qb16, qb16'⟩ eb16) ?_
    obtain ⟨x17, lx17, H⟩ := H
    refine JO.y 3 (Yld.lne lx17) ?_
    refine JO.s 4 (OpOk.st [.int .i64 x17.Kind, .int .i64 x17.N, .string (ba x17.S), sl x17.L] (KeepB.st hB 0 0 4) ?_)
    intro h18 hh
    have hE := hE.set hh (by simp [add_block])
    have hB : KeepB [(p1, .cells #[.int .i64 x17.Kind, .int .i64 x17.N, .string (ba x17.S), sl x17.L] 24 (0, 0))] h18 := hB.set 0 rfl (off := 0) rfl hh
    refine JO.end_ ?_
    have H := H h18 hE
    have hE := Ev.refl [p1] h18
    exact JK.inv (s13, x17) Sub.kk ⟨⟨hB, H.1⟩, H.2⟩
  · have H := H.2 (hb)
    refine JC.exit rfl ?_
    refine JC.next (JC.seq (JC.seq (JC.region ?_)))
    refine JO.p 1 [(25, .pointer (some ((⟨p1, 0, none⟩ : Addr).add 0)))] ?_
    refine JO.y 1 (Yld.le (KeepB.c hB 0 0 [.int .i64 s3.2.Kind])) ?_
    refine JO.p 3 [(27, .bool (s3.2.Kind != 8))] ?_
    refine JO.end_ (JC.next ?_)
    refine JC.cd (s3.2.Kind != 8) (fun hb => ?_) (fun hb => ?_)
    · have H := H.1 (hb)
      refine JC.seq (JC.region ?_)
      refine JO.p 2 [(2, sl (⟨none, 0, 0⟩ : Sl)), (3, .bool false)] ?_
      refine JO.end_ (JC.next (JC.ret ?_))
      exact JK.retG2 (sl (⟨none, 0, 0⟩ : Sl)) (.bool false) rfl RVal.s RVal.s ⟨(⟨none, 0, 0⟩ : Sl), false, by kernel_rfl, H⟩
    · have H := H.2 (hb)
      refine JC.skip (JC.next (JC.seq (JC.region ?_)))
      refine JO.p 3 [(2, sl s3.1), (3, .bool true)] ?_
      refine JO.end_ (JC.next (JC.ret ?_))
      exact JK.retG2 (sl s3.1) (.bool true) rfl RVal.s RVal.s ⟨s3.1, true, by kernel_rfl, H⟩

def F_text_read.body (s : Str) (h : Hp) (K : V_api_Term → Bool → Hp → Prop) (X : Chain → Hp → Prop) : Prop :=
AllocW h 24 [.int .i64 0, .int .i64 0, .string (ba ([] : Str)), sl (⟨none, 0, 0⟩ : Sl)] (fun (p1 : Nat) (h2 : Hp) => AllocW h2 4 [.bool false] (fun (p3 : Nat) (h4 : Hp) => AllocW h4 108 [.string (ba s), .int .i64 0] (fun (p5 : Nat) (h6 : Hp) => F_text_cursor_term.call (some ⟨p5, 0, none⟩) h6 (fun (r7 : V_api_Term) (h8 : Hp) => StoreW h8 ⟨p1, 0, none⟩ [.int .i64 r7.Kind, .int .i64 r7.N, .string (ba r7.S), sl r7.L] (fun (h12 : Hp) => LoadW h12 ⟨p1, 0, none⟩ V_api_Term.cells (fun (x13 : V_api_Term) => LoadW h12 ((⟨p5, 0, none⟩ : Addr).add 1) (cI .i64) (fun (x14 : Int) => StoreW h12 ⟨p1, 0, none⟩ [.int .i64 x13.Kind, .int .i64 x13.N, .string (ba x13.S), sl x13.L] (fun (h15 : Hp) => hcells h15 ((⟨p5, 0, none⟩ : Addr).add 1) [.int .i64 x14] ∧ StoreW h15 ⟨p3, 0, none⟩ [.bool (x14 == (s.length : Int))] (fun (h17 : Hp) => F_text_read_1.dbody none ⟨p1, 0, none⟩ ⟨p3, 0, none⟩ h17 (fun h18 => LoadW h18 ⟨p1, 0, none⟩ V_api_Term.cells (fun (x19 : V_api_Term) => LoadW h18 ⟨p3, 0, none⟩ cB (fun (x20 : Bool) => K x19 x20 h18))))))))) (DfrX (fun rec h R => F_text_read_1.dbody rec ⟨p1, 0, none⟩ ⟨p3, 0, none⟩ h R) (fun h9 => LoadW h9 ⟨p1, 0, none⟩ V_api_Term.cells (fun (x10 : V_api_Term) => LoadW h9 ⟨p3, 0, none⟩ cB (fun (x11 : Bool) => K x10 x11 h9)))))))
theorem F_text_read.sound {s : Str} {h : Hp} {K : V_api_Term → Bool → Hp → Prop} {X : Chain → Hp → Prop} (H : F_text_read.body s h K X) : F_text_read.call s h K X := by
  unfold F_text_read.body at H
  refine CallH.ofD Tryz.func52 rfl rfl fun w0 hw0 => ?_
  refine JC.seq (JC.region ?_)
  refine JO.s 0 (OpOk.bp [.int .i64 0, .int .i64 0, .string (ba ([] : Str)), sl (⟨none, 0, 0⟩ : Sl)] 24 ?_)
  intro p1 h2 hp hh
  have H := H p1 h2 hp hh
  refine JO.s 1 (OpOk.bp [.bool false] 4 ?_)
  intro p3 h4 hp hh
  have H := H p3 h4 hp hh
  refine JO.end_ (JC.next (JC.seq ?_))
  refine JC.region0 ?_
  refine JO.p 1 [(5, (Value.func (.func 67) #[] #[.pointer (some ⟨p1, 0, none⟩), .pointer (some ⟨p3, 0, none⟩)]))] ?_
  refine JO.df { target := .fn (.func 67) #[.pointer (some ⟨p1, 0, none⟩), .pointer (some ⟨p3, 0, none⟩)], args := #[] } (by intro _; kernel_rfl) ?_
  refine JO.end_ (JC.next (JC.seq (JC.region ?_)))
  refine JO.p 2 [(7, .agg #[.string (ba s), .int .i64 0])] ?_
  refine JO.s 2 (OpOk.bp [.string (ba s), .int .i64 0] 108 ?_)
  intro p5 h6 hp hh
  have H := H p5 h6 hp hh
  refine JO.p 4 [(4, .pointer (some ⟨p5, 0, none⟩))] ?_
  refine JO.end_ (JC.next (JC.seq (JC.region ?_)))
  refine JO.p 1 [(9, .pointer (some ⟨p5, 0, none⟩))] ?_
  refine JO.s 1 (OpOk.c (CallH.mono H ?_ fun _ _ hx => hx) (hp := panOk_d (F_text_read_1.dok ⟨p1, 0, none⟩ ⟨p3, 0, none⟩) (fun h9 H a w ha hw => by obtain ⟨x10, lx10, H⟩ := H; obtain ⟨x11, lx11, H⟩ := H; exact ⟨_, resG2 rfl ((RVal.hN lx10).run ha hw.heap) ((RVal.h1 lx11).run ha hw.heap), ⟨x10, x11, by kernel_rfl, H⟩⟩)))
  rintro _ h8 ⟨r7, rfl, H⟩
  obtain ⟨hs, H⟩ := H
  refine JO.s 2 (OpOk.st [.int .i64 r7.Kind, .int .i64 r7.N, .string (ba r7.S), sl r7.L] hs ?_)
  intro h12 hh
  have H := H h12 hh
  refine JO.end_ (JC.next (JC.seq ?_))
  refine JC.rd 10 ?_
  obtain ⟨x13, lx13, H⟩ := H
  refine JD.hold (HoldS.cells 0 lx13) ?_
  refine JD.t 0 Yld.lnh ?_
  refine JD.rr 1 (.pointer (some ⟨p5, 0, none⟩)) ?_
  refine JD.rr 2 (.pointer (some ⟨p5, 0, none⟩)) ?_
  refine JD.rr 3 (.pointer (some ((⟨p5, 0, none⟩ : Addr).add 1))) ?_
  obtain ⟨x14, lx14, H⟩ := H
  refine JD.hold (HoldS.cells 4 lx14) ?_
  refine JD.t 4 Yld.lh ?_
  refine JD.rr 5 (.string (ba s)) ?_
  refine JD.rr 6 (.int .i64 (s.length : Int)) ?_
  refine JD.rr 7 (.bool (x14 == (s.length : Int))) ?_
  obtain ⟨hs, H⟩ := H
  refine JD.o 8 (OpOk.st [.int .i64 x13.Kind, .int .i64 x13.N, .string (ba x13.S), sl x13.L] hs ?_)
  intro h15 hh
  obtain ⟨hL0, H⟩ := H h15 hh
  have l16 := hL0
  refine ⟨(HoldS.cells 4 l16 (HoldS.drop 0 8 HoldS.nil)), ?_⟩
  obtain ⟨hs, H⟩ := H
  refine JD.o 9 (OpOk.st [.bool (x14 == (s.length : Int))] hs ?_)
  intro h17 hh
  have H := H h17 hh
  refine ⟨(HoldS.drop 4 9 (HoldS.drop 0 8 HoldS.nil)), ?_⟩
  refine JD.e ?_
  refine JC.next (JC.ret ?_)
  exact JK.retD (F_text_read_1.dok ⟨p1, 0, none⟩ ⟨p3, 0, none⟩) H (fun h18 H a w ha hw => by obtain ⟨x19, lx19, H⟩ := H; obtain ⟨x20, lx20, H⟩ := H; exact ⟨_, resG2 rfl ((RVal.hN lx19).run ha hw.heap) ((RVal.h1 lx20).run ha hw.heap), ⟨x19, x20, by kernel_rfl, H⟩⟩)

def F_term_Check.body (t : V_api_Term) (h : Hp) (K : Int → Hp → Prop) (X : Chain → Hp → Prop) : Prop :=
AllocW h 24 [.int .i64 t.Kind, .int .i64 t.N, .string (ba t.S), sl t.L] (fun (p1 : Nat) (h2 : Hp) => AllocW h2 27 [.int .i64 0] (fun (p3 : Nat) (h4 : Hp) => AllocW h4 3 [.int .i64 0] (fun (p5 : Nat) (h6 : Hp) => StoreW h6 ⟨p5, 0, none⟩ [.int .i64 0] (fun (h7 : Hp) => LoadW h7 ⟨p1, 0, none⟩ V_api_Term.cells (fun (x8 : V_api_Term) => F_term_parts.call x8 h7 (fun (r9 : Value) (h10 : Hp) => RangeW Tryz.prog r9 h10 (fun (x11 : V_api_Term) => [.agg #[.int .i64 x11.Kind, .int .i64 x11.N, .string (ba x11.S), sl x11.L]]) (fun (x11 : V_api_Term) h12 beg13 next14 jump15 =>
AllocW h12 24 [.int .i64 0, .int .i64 0, .string (ba ([] : Str)), sl (⟨none, 0, 0⟩ : Sl)] (fun (p16 : Nat) (h17 : Hp) => StoreW h17 ⟨p16, 0, none⟩ [.int .i64 x11.Kind, .int .i64 x11.N, .string (ba x11.S), sl x11.L] (fun (h18 : Hp) => beg13 h18 (fun h19 =>
LoadW h19 ⟨p16, 0, none⟩ V_api_Term.cells (fun (x20 : V_api_Term) => F_term_sound.call x20 h19 (fun (r21 : Bool) (h22 : Hp) => ((!r21) = true → StoreW h22 ⟨p3, 0, none⟩ [.int .i64 2] (fun (h23 : Hp) => jump15 .ret h23)) ∧
((!r21) = false → LoadW h22 ⟨p5, 0, none⟩ (cI .i64) (fun (x24 : Int) => LoadW h22 ⟨p16, 0, none⟩ V_api_Term.cells (fun (x25 : V_api_Term) => F_term_own.call x25 h22 (fun (r26 : Int) (h27 : Hp) => hcells h27 ⟨p5, 0, none⟩ [.int .i64 x24] ∧ StoreW h27 ⟨p5, 0, none⟩ [.int .i64 (IntKind.i64.wrap (x24 + r26))] (fun (h29 : Hp) => next14 h29)) noX)))) noX)))))
  (fun D30 h31 => LoadW h31 ⟨p5, 0, none⟩ (cI .i64) (fun (x33 : Int) => (x33 > 65536 → StoreW h31 ⟨p3, 0, none⟩ [.int .i64 3] (fun (h34 : Hp) => ShutW (D30 :: []) h34 (fun h35 => LoadW h35 ⟨p3, 0, none⟩ (cI .i64) (fun (x36 : Int) => K x36 h35)))) ∧
(¬ (x33 > 65536) → StoreW h31 ⟨p3, 0, none⟩ [.int .i64 0] (fun (h37 : Hp) => ShutW (D30 :: []) h37 (fun h38 => LoadW h38 ⟨p3, 0, none⟩ (cI .i64) (fun (x39 : Int) => K x39 h38))))))
  (fun D30 c32 h31 => (c32 = Code.ret ∧ ShutW (D30 :: []) h31 (fun h40 => LoadW h40 ⟨p3, 0, none⟩ (cI .i64) (fun (x41 : Int) => K x41 h40))))) noX)))))
theorem F_term_Check.sound {t : V_api_Term} {h : Hp} {K : Int → Hp → Prop} {X : Chain → Hp → Prop} (H : F_term_Check.body t h K X) : F_term_Check.call t h K X := by
  unfold F_term_Check.body at H
  refine CallH.ofM Tryz.func53 rfl rfl fun w0 hw0 => ?_
  refine JC.seq (JC.region ?_)
  refine JO.s 0 (OpOk.bp [.int .i64 t.Kind, .int .i64 t.N, .string (ba t.S), sl t.L] 24 ?_)
  intro p1 h2 hp hh
  have H := H p1 h2 hp hh
  refine JO.s 1 (OpOk.bp [.int .i64 0] 27 ?_)
  intro p3 h4 hp hh
  have H := H p3 h4 hp hh
  refine JO.end_ (JC.next (JC.seq (JC.region ?_)))
  refine JO.s 0 (OpOk.bp [.int .i64 0] 3 ?_)
  intro p5 h6 hp hh
  have H := H p5 h6 hp hh
  obtain ⟨hs, H⟩ := H
  refine JO.s 1 (OpOk.st [.int .i64 0] hs ?_)
  intro h7 hh
  have H := H h7 hh
  refine JO.end_ (JC.next (JC.seq (JC.seq (JC.region ?_))))
  obtain ⟨x8, lx8, H⟩ := H
  refine JO.y 0 (Yld.lne lx8) ?_
  refine JO.s 1 (OpOk.c (CallH.mono H ?_ fun _ _ hx => hx))
  rintro r9 h10 ⟨_, rfl, H⟩
  refine JO.end_ (JC.next (JC.block ?_))
  refine JC.rangeF (T := V_api_Term) r9 [0] [(2, .pointer (some ⟨p3, 0, none⟩)), (3, .pointer (some ⟨p5, 0, none⟩))] H ?_ ?_ ?_
  · rintro x11 lx11 w1 Rx11 Nb h12 beg13 next14 jump15 H hbeg13 hnext14 hjump15
    refine JC.region ?_
    refine JO.s 0 (OpOk.bp [.int .i64 0, .int .i64 0, .string (ba ([] : Str)), sl (⟨none, 0, 0⟩ : Sl)] 24 ?_)
    intro p16 h17 hp hh
    have H := H p16 h17 hp hh
    obtain ⟨hs, H⟩ := H
    refine JO.s 1 (OpOk.st [.int .i64 x11.Kind, .int .i64 x11.N, .string (ba x11.S), sl x11.L] hs ?_)
    intro h18 hh
    have H := H h18 hh
    refine JO.end_ ?_
    refine hbeg13 _ _ _ H (fun h19 H => ?_)
    refine JC.block (JC.seq (JC.seq (JC.region ?_)))
    obtain ⟨x20, lx20, H⟩ := H
    refine JO.y 0 (Yld.lne lx20) ?_
    refine JO.s 1 (OpOk.c (CallH.mono H ?_ fun _ _ hx => hx))
    rintro _ h22 ⟨r21, rfl, H⟩
    refine JO.p 3 [(10, .bool (!r21))] ?_
    refine JO.end_ (JC.next ?_)
    refine JC.cd (!r21) (fun hb => ?_) (fun hb => ?_)
    · have H := H.1 (hb)
      refine JC.seq (JC.region ?_)
      obtain ⟨hs, H⟩ := H
      refine JO.s 0 (OpOk.st [.int .i64 2] hs ?_)
      intro h23 hh
      have H := H h23 hh
      refine JO.end_ (JC.next (JC.ret ?_))
      exact hjump15 .ret _ _ H
    · have H := H.2 (hb)
      refine JC.skip (JC.next ?_)
      refine JC.rd 5 ?_
      obtain ⟨x24, lx24, H⟩ := H
      refine JD.hold (HoldS.cells 0 lx24) ?_
      refine JD.t 0 Yld.lh ?_
      obtain ⟨x25, lx25, H⟩ := H
      refine JD.hold (HoldS.cells 1 lx25) ?_
      refine JD.t 1 Yld.lnh ?_
      refine JD.o 2 (OpOk.c (CallH.mono H ?_ fun _ _ hx => hx))
      rintro _ h27 ⟨r26, rfl, hL0, H⟩
      have l28 := hL0
      refine ⟨(HoldS.drop 1 2 (HoldS.cells 0 l28 HoldS.nil)), ?_⟩
      refine JD.rr 3 (.int .i64 (IntKind.i64.wrap (x24 + r26))) ?_
      obtain ⟨hs, H⟩ := H
      refine JD.o 4 (OpOk.st [.int .i64 (IntKind.i64.wrap (x24 + r26))] hs ?_)
      intro h29 hh
      have H := H h29 hh
      refine ⟨(HoldS.drop 1 2 (HoldS.drop 0 4 HoldS.nil)), ?_⟩
      refine JD.e ?_
      exact hnext14 _ _ H
  · rintro D30 h31 H
    refine JC.next (JC.seq (JC.seq (JC.region ?_)))
    obtain ⟨x33, lx33, H⟩ := H
    refine JO.y 0 (Yld.le lx33) ?_
    refine JO.p 2 [(16, .bool (decide (x33 > 65536)))] ?_
    refine JO.end_ (JC.next ?_)
    refine JC.cd (decide (x33 > 65536)) (fun hb => ?_) (fun hb => ?_)
    · have H := H.1 (of_decide_eq_true hb)
      refine JC.seq (JC.region ?_)
      obtain ⟨hs, H⟩ := H
      refine JO.s 0 (OpOk.st [.int .i64 3] hs ?_)
      intro h34 hh
      have H := H h34 hh
      refine JO.end_ (JC.next (JC.ret ?_))
      refine JK.retM1 (Ds := (D30 :: [])) (ShutW.mono (fun h35 H => ?_) H)
      obtain ⟨x36, lx36, H⟩ := H
      exact ⟨.int .i64 x36, RVal.h1 lx36, ⟨x36, by kernel_rfl, H⟩⟩
    · have H := H.2 (of_decide_eq_false hb)
      refine JC.skip (JC.next (JC.seq (JC.region ?_)))
      obtain ⟨hs, H⟩ := H
      refine JO.s 0 (OpOk.st [.int .i64 0] hs ?_)
      intro h37 hh
      have H := H h37 hh
      refine JO.end_ (JC.next (JC.ret ?_))
      refine JK.retM1 (Ds := (D30 :: [])) (ShutW.mono (fun h38 H => ?_) H)
      obtain ⟨x39, lx39, H⟩ := H
      exact ⟨.int .i64 x39, RVal.h1 lx39, ⟨x39, by kernel_rfl, H⟩⟩
  · rintro D30 c32 h31 (⟨rfl, H⟩)
    · refine JC.ret ?_
      refine JK.retM1 (Ds := (D30 :: [])) (ShutW.mono (fun h40 H => ?_) H)
      obtain ⟨x41, lx41, H⟩ := H
      exact ⟨.int .i64 x41, RVal.h1 lx41, ⟨x41, by kernel_rfl, H⟩⟩

def F_tenureref31_items.body (t : V_api_Term) (h : Hp) (K : Sl → Bool → Hp → Prop) (X : Chain → Hp → Prop) : Prop :=
∀ (p1 : Nat) (h2 : Hp), New p1 h h2 → Ev [p1] h h2 → LoopW (fun (s3 : Sl × V_api_Term) h4 next5 =>
((s3.2.Kind == 9) = true → IdxW s3.2.L 0 (fun (b8 : Addr) => LoadW h4 (b8.add ((0 : Int).toNat * 4)) V_api_Term.cells (fun (x9 : V_api_Term) => AllocW h4 24 [.int .i64 x9.Kind, .int .i64 x9.N, .string (ba x9.S), sl x9.L] (fun (p10 : Nat) (h11 : Hp) => AppW h11 24 4 56 [.int .i64 0, .int .i64 0, .string (ba ([] : Str)), sl (⟨none, 0, 0⟩ : Sl)] s3.1 (⟨some ⟨p10, 0, none⟩, 1, 1⟩ : Sl) (fun (s12 : Sl) (h13 : Hp) => SameOn [p1] h11 h13 ∧ IdxW s3.2.L 1 (fun (b15 : Addr) => LoadW h13 (b15.add ((1 : Int).toNat * 4)) V_api_Term.cells (fun (x16 : V_api_Term) => ∀ (h17 : Hp), Ev [p1] h13 h17 → next5 (s12, x16) h17))))))) ∧
((s3.2.Kind == 9) = false → K s3.1 (s3.2.Kind == 8) h4)) ((⟨none, 0, 0⟩ : Sl), t) h2
theorem F_tenureref31_items.sound {t : V_api_Term} {h : Hp} {K : Sl → Bool → Hp → Prop} {X : Chain → Hp → Prop} (H : F_tenureref31_items.body t h K X) : F_tenureref31_items.call t h K X := by
  unfold F_tenureref31_items.body at H
  refine CallH.of Tryz.func55 rfl rfl fun w0 hw0 => ?_
  refine JC.seq (JC.region ?_)
  refine JO.s 0 (OpOk.bp [.int .i64 t.Kind, .int .i64 t.N, .string (ba t.S), sl t.L] 24 ?_)
  intro p1 h2 hp hh
  have hE := Ev.refl [] h
  have hB := KeepB.nil h
  have hNp1 : Array.size h ≤ p1 := hp ▸ hE.size
  have hB : KeepB [(p1, .cells #[.int .i64 t.Kind, .int .i64 t.N, .string (ba t.S), sl t.L] 24 (0, 0))] h2 := hB.push hp hh
  have hE := hE.push hp hh
  refine JO.p 3 [(2, sl (⟨none, 0, 0⟩ : Sl)), (3, .bool false)] ?_
  refine JO.end_ (JC.next (JC.seq (JC.region ?_)))
  refine JO.p 1 [(4, sl (⟨none, 0, 0⟩ : Sl))] ?_
  refine JO.end_ (JC.next (JC.seq (JC.block ?_)))
  have H := H p1 h2 ⟨hNp1, hB.l 0⟩ hE
  have hE := Ev.refl [p1] h2
  obtain ⟨I6, μI6, hI6, H⟩ := H
  refine JC.loop (S := Sl × V_api_Term) (fun s3 => [(1, .pointer (some ⟨p1, 0, none⟩)), (4, sl s3.1)]) (fun s3 h' => KeepB [(p1, .cells #[.int .i64 s3.2.Kind, .int .i64 s3.2.N, .string (ba s3.2.S), sl s3.2.L] 24 (0, 0))] h' ∧ I6 s3 h') μI6 ((⟨none, 0, 0⟩ : Sl), t) Sub.kk ⟨hB, hI6⟩ ?_
  rintro s3 h4 ⟨hB, hI⟩
  have H := H s3 h4 hI
  have hE := Ev.refl [p1] h4
  refine JC.seq (JC.seq (JC.region ?_))
  refine JO.p 1 [(5, .pointer (some ((⟨p1, 0, none⟩ : Addr).add 0)))] ?_
  refine JO.y 1 (Yld.le (KeepB.c hB 0 0 [.int .i64 s3.2.Kind])) ?_
  refine JO.p 3 [(7, .bool (s3.2.Kind == 9))] ?_
  refine JO.end_ (JC.next ?_)
  refine JC.cd (s3.2.Kind == 9) (fun hb => ?_) (fun hb => ?_)
  · have H := H.1 (hb)
    refine JC.skip (JC.next (JC.block (JC.seq (JC.region ?_))))
    refine JO.p 2 [(8, sl s3.1), (9, .pointer (some ((⟨p1, 0, none⟩ : Addr).add 3)))] ?_
    refine JO.y 2 (Yld.le (KeepB.c hB 0 3 [sl s3.2.L])) ?_
    obtain ⟨qb8, qb8', b8, eb8, H⟩ := H
    refine JO.y 3 (Yld.ia 24 4 .i64 s3.2.L b8 0 ⟨qb8, qb8'⟩ eb8) ?_
    obtain ⟨x9, lx9, H⟩ := H
    refine JO.y 4 (Yld.lne lx9) ?_
    refine JO.s 5 (OpOk.bs 1 [.int .i64 x9.Kind, .int .i64 x9.N, .string (ba x9.S), sl x9.L] 24 ?_)
    intro p10 h11 hp hh
    have H := H p10 h11 hp hh
    have hB := hB.grow hh
    have hE := Ev.refl [p1] h11
    refine JO.s 6 (OpOk.as 24 (.agg #[.int .i64 0, .int .i64 0, .string (ba ([] : Str)), sl (⟨none, 0, 0⟩ : Sl)]) H ?_)
    rintro s12 h13 ⟨hS, H⟩
    have hB := hB.same hS
    have hE := Ev.refl [p1] h13
    refine JO.p 8 [(4, sl s12)] ?_
    refine JO.end_ (JC.next (JC.region ?_))
    refine JO.p 1 [(15, .pointer (some ((⟨p1, 0, none⟩ : Addr).add 3)))] ?_
    refine JO.y 1 (Yld.le (KeepB.c hB 0 3 [sl s3.2.L])) ?_
    obtain ⟨qb15, qb15', b15, eb15, H⟩ := H
    refine JO.y 2 (Yld.ia 24 4 .i64 s3.2.L b15 1 ⟨qb15, qb15'⟩ eb15) ?_
    obtain ⟨x16, lx16, H⟩ := H
    refine JO.y 3 (Yld.lne lx16) ?_
    refine JO.s 4 (OpOk.st [.int .i64 x16.Kind, .int .i64 x16.N, .string (ba x16.S), sl x16.L] (KeepB.st hB 0 0 4) ?_)
    intro h17 hh
    have hE := hE.set hh (by simp [add_block])
    have hB : KeepB [(p1, .cells #[.int .i64 x16.Kind, .int .i64 x16.N, .string (ba x16.S), sl x16.L] 24 (0, 0))] h17 := hB.set 0 rfl (off := 0) rfl hh
    refine JO.end_ ?_
    have H := H h17 hE
    have hE := Ev.refl [p1] h17
    exact JK.inv (s12, x16) Sub.kk ⟨⟨hB, H.1⟩, H.2⟩
  · have H := H.2 (hb)
    refine JC.exit rfl ?_
    refine JC.next (JC.seq ?_)
    refine JC.rd 6 ?_
    refine JD.rr 0 (sl s3.1) ?_
    refine JD.rr 1 (.pointer (some ((⟨p1, 0, none⟩ : Addr).add 0))) ?_
    refine JD.hold (HoldS.cells 2 (KeepB.c hB 0 0 [.int .i64 s3.2.Kind])) ?_
    refine JD.t 2 Yld.lh ?_
    refine JD.rr 3 (.bool (s3.2.Kind == 8)) ?_
    refine JD.rr 4 (sl s3.1) ?_
    refine JD.rr 5 (.bool (s3.2.Kind == 8)) ?_
    refine JD.e ?_
    refine JC.next (JC.ret ?_)
    exact JK.retG2 (sl s3.1) (.bool (s3.2.Kind == 8)) rfl RVal.s RVal.s ⟨s3.1, s3.2.Kind == 8, by kernel_rfl, H⟩

def F_tenureref05_reader_term.body (r : Option Addr) (h : Hp) (K : V_api_Term → Hp → Prop) (X : Chain → Hp → Prop) : Prop :=
∀ (p1 : Nat) (h2 : Hp), New p1 h h2 → Ev [p1] h h2 → (LtAll [p1] h2 → F_tenureref05_reader_next.call r h2 (fun (r3 : Int) (h4 : Hp) => SameOn [p1] h2 h4 ∧ NilW r (fun (a5 : Addr) => LoadW h4 (a5.add 2) cB (fun (x6 : Bool) => (x6 = true → ∀ (h7 : Hp), Ev [p1] h4 h7 → K (⟨0, 0, ([] : Str), (⟨none, 0, 0⟩ : Sl)⟩ : V_api_Term) h7) ∧
(x6 = false → JoinW (fun (k8 : Bool → Hp → Prop) =>
((r3 == 45) = true → k8 true h4) ∧
((r3 == 45) = false → (LtAll [p1] h4 → F_tenureref05_within.call r3 48 57 h4 (fun (r12 : Bool) (h13 : Hp) => SameOn [p1] h4 h13 ∧ k8 r12 h13) X))) (fun (y9 : Bool) h10 =>
(y9 = true → (LtAll [p1] h10 → F_tenureref05_reader_number.call r (-576460752303423488) 576460752303423487 h10 (fun (r14 : Int) (h15 : Hp) => SameOn [p1] h10 h15 ∧ ∀ (h16 : Hp), Ev [p1] h15 h16 → K (⟨1, r14, ([] : Str), (⟨none, 0, 0⟩ : Sl)⟩ : V_api_Term) h16) X)) ∧
(y9 = false → ((r3 == 39) = true → (LtAll [p1] h10 → F_tenureref05_reader_quoted.call r h10 (fun (r17 : V_api_Term) (h18 : Hp) => SameOn [p1] h10 h18 ∧ ∀ (h19 : Hp), Ev [p1] h18 h19 → K r17 h19) X)) ∧
((r3 == 39) = false → (LtAll [p1] h10 → F_tenureref05_within.call r3 97 122 h10 (fun (r20 : Bool) (h21 : Hp) => SameOn [p1] h10 h21 ∧ (r20 = true → (LtAll [p1] h21 → F_tenureref05_reader_plain.call r h21 (fun (r22 : V_api_Term) (h23 : Hp) => SameOn [p1] h21 h23 ∧ ∀ (h24 : Hp), Ev [p1] h23 h24 → K r22 h24) X)) ∧
(r20 = false → ((r3 == 60) = true → (LtAll [p1] h21 → F_tenureref05_reader_numbered.call r 6 ([60, 48, 46] : Str) ([46, 48, 62] : Str) h21 (fun (r25 : V_api_Term) (h26 : Hp) => SameOn [p1] h21 h26 ∧ ∀ (h27 : Hp), Ev [p1] h26 h27 → K r25 h27) X)) ∧
((r3 == 60) = false → (LtAll [p1] h21 → F_tenureref05_reader_starts.call r ([35, 82, 101, 102, 60] : Str) h21 (fun (r28 : Bool) (h29 : Hp) => SameOn [p1] h21 h29 ∧ (r28 = true → (LtAll [p1] h29 → F_tenureref05_reader_numbered.call r 3 ([35, 82, 101, 102, 60] : Str) ([62] : Str) h29 (fun (r30 : V_api_Term) (h31 : Hp) => SameOn [p1] h29 h31 ∧ ∀ (h32 : Hp), Ev [p1] h31 h32 → K r30 h32) X)) ∧
(r28 = false → (LtAll [p1] h29 → F_tenureref05_reader_starts.call r ([35, 84, 105, 100, 60] : Str) h29 (fun (r33 : Bool) (h34 : Hp) => SameOn [p1] h29 h34 ∧ (r33 = true → (LtAll [p1] h34 → F_tenureref05_reader_numbered.call r 4 ([35, 84, 105, 100, 60] : Str) ([62] : Str) h34 (fun (r35 : V_api_Term) (h36 : Hp) => SameOn [p1] h34 h36 ∧ ∀ (h37 : Hp), Ev [p1] h36 h37 → K r35 h37) X)) ∧
(r33 = false → (LtAll [p1] h34 → F_tenureref05_reader_starts.call r ([35, 70, 117, 110, 60] : Str) h34 (fun (r38 : Bool) (h39 : Hp) => SameOn [p1] h34 h39 ∧ (r38 = true → (LtAll [p1] h39 → F_tenureref05_reader_fun.call r h39 (fun (r40 : V_api_Term) (h41 : Hp) => SameOn [p1] h39 h41 ∧ ∀ (h42 : Hp), Ev [p1] h41 h42 → K r40 h42) X)) ∧
(r38 = false → ((r3 == 123) = true → (LtAll [p1] h39 → F_tenureref05_reader_eat.call r ([123] : Str) h39 (fun (h43 : Hp) => SameOn [p1] h39 h43 ∧ (LtAll [p1] h43 → F_tenureref05_reader_among.call r ([125] : Str) h43 (fun (r44 : Sl) (h45 : Hp) => SameOn [p1] h43 h45 ∧ ∀ (h46 : Hp), Ev [p1] h45 h46 → K (⟨7, 0, ([] : Str), r44⟩ : V_api_Term) h46) X)) X)) ∧
((r3 == 123) = false → ((r3 == 91) = true → (LtAll [p1] h39 → F_tenureref05_reader_list.call r h39 (fun (r47 : V_api_Term) (h48 : Hp) => SameOn [p1] h39 h48 ∧ ∀ (h49 : Hp), Ev [p1] h48 h49 → K r47 h49) X)) ∧
((r3 == 91) = false → StoreW h39 (a5.add 2) [.bool true] (fun (h50 : Hp) => SameOn [p1] h39 h50 ∧ ∀ (h51 : Hp), Ev [p1] h50 h51 → K (⟨0, 0, ([] : Str), (⟨none, 0, 0⟩ : Sl)⟩ : V_api_Term) h51))))) X))) X))) X)))) X)))))))) X)
theorem F_tenureref05_reader_term.sound {r : Option Addr} {h : Hp} {K : V_api_Term → Hp → Prop} {X : Chain → Hp → Prop} (H : F_tenureref05_reader_term.body r h K X) : F_tenureref05_reader_term.call r h K X := by
  unfold F_tenureref05_reader_term.body at H
  refine CallH.of Tryz.func56 rfl rfl fun w0 hw0 => ?_
  refine JC.seq (JC.region ?_)
  refine JO.s 0 (OpOk.bp [.int .i64 0, .int .i64 0, .string (ba ([] : Str)), sl (⟨none, 0, 0⟩ : Sl)] 24 ?_)
  intro p1 h2 hp hh
  have hE := Ev.refl [] h
  have hB := KeepB.nil h
  have hNp1 : Array.size h ≤ p1 := hp ▸ hE.size
  have hB : KeepB [(p1, .cells #[.int .i64 0, .int .i64 0, .string (ba ([] : Str)), sl (⟨none, 0, 0⟩ : Sl)] 24 (0, 0))] h2 := hB.push hp hh
  have hE := hE.push hp hh
  refine JO.end_ (JC.next (JC.seq (JC.region ?_)))
  refine JO.p 1 [(4, .pointer r)] ?_
  have H := H p1 h2 ⟨hNp1, hB.l 0⟩ hE
  have hE := Ev.refl [p1] h2
  have H := H hB.ltAll
  refine JO.s 1 (OpOk.c (CallH.mono H ?_ fun _ _ hx => hx))
  rintro _ h4 ⟨r3, rfl, hS, H⟩
  have hB := hB.same hS
  have hE := Ev.refl [p1] h4
  refine JO.p 3 [(3, .int .u8 r3)] ?_
  refine JO.end_ (JC.next (JC.seq (JC.block (JC.seq (JC.region ?_)))))
  refine JO.p 1 [(7, .pointer r)] ?_
  obtain ⟨a5, na5, H⟩ := H
  refine JO.y 1 (Yld.np na5) ?_
  refine JO.p 3 [(9, .pointer (some (a5.add 2)))] ?_
  obtain ⟨x6, lx6, H⟩ := H
  refine JO.y 3 (Yld.le lx6) ?_
  refine JO.p 5 [(6, .bool x6)] ?_
  refine JO.end_ (JC.next ?_)
  refine JC.cd x6 (fun hb => ?_) (fun hb => ?_)
  · have H := H.1 (hb)
    refine JC.seq (JC.region ?_)
    refine JO.p 1 [(11, .agg #[.int .i64 0, .int .i64 0, .string (ba ([] : Str)), sl (⟨none, 0, 0⟩ : Sl)])] ?_
    refine JO.s 1 (OpOk.st [.int .i64 0, .int .i64 0, .string (ba ([] : Str)), sl (⟨none, 0, 0⟩ : Sl)] (KeepB.st hB 0 0 4) ?_)
    intro h7 hh
    have hE := hE.set hh (by simp [add_block])
    have hB : KeepB [(p1, .cells #[.int .i64 0, .int .i64 0, .string (ba ([] : Str)), sl (⟨none, 0, 0⟩ : Sl)] 24 (0, 0))] h7 := hB.set 0 rfl (off := 0) rfl hh
    refine JO.end_ (JC.next (JC.ret ?_))
    have H := H h7 hE
    have hE := Ev.refl [p1] h7
    exact JK.retG1 (.agg #[.int .i64 0, .int .i64 0, .string (ba ([] : Str)), sl (⟨none, 0, 0⟩ : Sl)]) rfl (RVal.bN p1 24 hB 0) ⟨(⟨0, 0, ([] : Str), (⟨none, 0, 0⟩ : Sl)⟩ : V_api_Term), by kernel_rfl, H⟩
  · have H := H.2 (hb)
    refine JC.seq (JC.region ?_)
    refine JO.p 3 [(15, .bool (r3 == 45))] ?_
    obtain ⟨k8, H, Hk8⟩ := H
    refine JO.jn (S := Bool) 6 (fun y9 => [(0, .pointer r), (2, .pointer (some ⟨p1, 0, none⟩)), (3, .int .u8 r3), (18, .bool y9)]) (fun y9 h' => KeepB [(p1, .cells #[.int .i64 0, .int .i64 0, .string (ba ([] : Str)), sl (⟨none, 0, 0⟩ : Sl)] 24 (0, 0))] h' ∧ k8 y9 h') ?_ ?_
    · refine JO.cs 15 (r3 == 45) (fun hc11 => ?_) (fun hc11 => ?_)
      · have H := H.1 (hc11)
        refine JO.p 6 [(18, .bool true)] ?_
        refine JO.end_ ?_
        exact JK.inv true (Sub.of (by (try rw [hc11]); first | done | kernel_rfl)) ⟨hB, H⟩
      · have H := H.2 (hc11)
        refine JO.p 4 [(16, .int .u8 r3)] ?_
        have H := H hB.ltAll
        refine JO.s 4 (OpOk.c (CallH.mono H ?_ fun _ _ hx => hx))
        rintro _ h13 ⟨r12, rfl, hS, H⟩
        have hB := hB.same hS
        have hE := Ev.refl [p1] h13
        refine JO.p 6 [(18, .bool r12)] ?_
        refine JO.end_ ?_
        exact JK.inv r12 (Sub.of (by (try rw [hc11]); first | done | kernel_rfl)) ⟨hB, H⟩
    rintro y9 h10 ⟨hB, hk⟩
    have H := Hk8 y9 h10 hk
    have hE := Ev.refl [p1] h10
    refine JO.p 7 [(12, .bool y9)] ?_
    refine JO.end_ (JC.next ?_)
    refine JC.cd y9 (fun hb => ?_) (fun hb => ?_)
    · have H := H.1 (hb)
      refine JC.seq (JC.region ?_)
      refine JO.p 1 [(19, .pointer r)] ?_
      have H := H hB.ltAll
      refine JO.s 1 (OpOk.c (CallH.mono H ?_ fun _ _ hx => hx))
      rintro _ h15 ⟨r14, rfl, hS, H⟩
      have hB := hB.same hS
      have hE := Ev.refl [p1] h15
      refine JO.p 3 [(21, .agg #[.int .i64 1, .int .i64 r14, .string (ba ([] : Str)), sl (⟨none, 0, 0⟩ : Sl)])] ?_
      refine JO.s 3 (OpOk.st [.int .i64 1, .int .i64 r14, .string (ba ([] : Str)), sl (⟨none, 0, 0⟩ : Sl)] (KeepB.st hB 0 0 4) ?_)
      intro h16 hh
      have hE := hE.set hh (by simp [add_block])
      have hB : KeepB [(p1, .cells #[.int .i64 1, .int .i64 r14, .string (ba ([] : Str)), sl (⟨none, 0, 0⟩ : Sl)] 24 (0, 0))] h16 := hB.set 0 rfl (off := 0) rfl hh
      refine JO.end_ (JC.next (JC.ret ?_))
      have H := H h16 hE
      have hE := Ev.refl [p1] h16
      exact JK.retG1 (.agg #[.int .i64 1, .int .i64 r14, .string (ba ([] : Str)), sl (⟨none, 0, 0⟩ : Sl)]) rfl (RVal.bN p1 24 hB 0) ⟨(⟨1, r14, ([] : Str), (⟨none, 0, 0⟩ : Sl)⟩ : V_api_Term), by kernel_rfl, H⟩
    · have H := H.2 (hb)
      refine JC.seq (JC.region ?_)
      refine JO.p 3 [(22, .bool (r3 == 39))] ?_
      refine JO.end_ (JC.next ?_)
      refine JC.cd (r3 == 39) (fun hb => ?_) (fun hb => ?_)
      · have H := H.1 (hb)
        refine JC.seq (JC.region ?_)
        refine JO.p 1 [(25, .pointer r)] ?_
        have H := H hB.ltAll
        refine JO.s 1 (OpOk.c (CallH.mono H ?_ fun _ _ hx => hx))
        rintro _ h18 ⟨r17, rfl, hS, H⟩
        have hB := hB.same hS
        have hE := Ev.refl [p1] h18
        refine JO.s 2 (OpOk.st [.int .i64 r17.Kind, .int .i64 r17.N, .string (ba r17.S), sl r17.L] (KeepB.st hB 0 0 4) ?_)
        intro h19 hh
        have hE := hE.set hh (by simp [add_block])
        have hB : KeepB [(p1, .cells #[.int .i64 r17.Kind, .int .i64 r17.N, .string (ba r17.S), sl r17.L] 24 (0, 0))] h19 := hB.set 0 rfl (off := 0) rfl hh
        refine JO.end_ (JC.next (JC.ret ?_))
        have H := H h19 hE
        have hE := Ev.refl [p1] h19
        exact JK.retG1 (.agg #[.int .i64 r17.Kind, .int .i64 r17.N, .string (ba r17.S), sl r17.L]) rfl (RVal.bN p1 24 hB 0) ⟨r17, by kernel_rfl, H⟩
      · have H := H.2 (hb)
        refine JC.seq (JC.region ?_)
        refine JO.p 1 [(28, .int .u8 r3)] ?_
        have H := H hB.ltAll
        refine JO.s 1 (OpOk.c (CallH.mono H ?_ fun _ _ hx => hx))
        rintro _ h21 ⟨r20, rfl, hS, H⟩
        have hB := hB.same hS
        have hE := Ev.refl [p1] h21
        refine JO.p 3 [(27, .bool r20)] ?_
        refine JO.end_ (JC.next ?_)
        refine JC.cd r20 (fun hb => ?_) (fun hb => ?_)
        · have H := H.1 (hb)
          refine JC.seq (JC.region ?_)
          refine JO.p 1 [(30, .pointer r)] ?_
          have H := H hB.ltAll
          refine JO.s 1 (OpOk.c (CallH.mono H ?_ fun _ _ hx => hx))
          rintro _ h23 ⟨r22, rfl, hS, H⟩
          have hB := hB.same hS
          have hE := Ev.refl [p1] h23
          refine JO.s 2 (OpOk.st [.int .i64 r22.Kind, .int .i64 r22.N, .string (ba r22.S), sl r22.L] (KeepB.st hB 0 0 4) ?_)
          intro h24 hh
          have hE := hE.set hh (by simp [add_block])
          have hB : KeepB [(p1, .cells #[.int .i64 r22.Kind, .int .i64 r22.N, .string (ba r22.S), sl r22.L] 24 (0, 0))] h24 := hB.set 0 rfl (off := 0) rfl hh
          refine JO.end_ (JC.next (JC.ret ?_))
          have H := H h24 hE
          have hE := Ev.refl [p1] h24
          exact JK.retG1 (.agg #[.int .i64 r22.Kind, .int .i64 r22.N, .string (ba r22.S), sl r22.L]) rfl (RVal.bN p1 24 hB 0) ⟨r22, by kernel_rfl, H⟩
        · have H := H.2 (hb)
          refine JC.seq (JC.region ?_)
          refine JO.p 3 [(32, .bool (r3 == 60))] ?_
          refine JO.end_ (JC.next ?_)
          refine JC.cd (r3 == 60) (fun hb => ?_) (fun hb => ?_)
          · have H := H.1 (hb)
            refine JC.seq (JC.region ?_)
            refine JO.p 1 [(35, .pointer r)] ?_
            have H := H hB.ltAll
            refine JO.s 1 (OpOk.c (CallH.mono H ?_ fun _ _ hx => hx))
            rintro _ h26 ⟨r25, rfl, hS, H⟩
            have hB := hB.same hS
            have hE := Ev.refl [p1] h26
            refine JO.s 2 (OpOk.st [.int .i64 r25.Kind, .int .i64 r25.N, .string (ba r25.S), sl r25.L] (KeepB.st hB 0 0 4) ?_)
            intro h27 hh
            have hE := hE.set hh (by simp [add_block])
            have hB : KeepB [(p1, .cells #[.int .i64 r25.Kind, .int .i64 r25.N, .string (ba r25.S), sl r25.L] 24 (0, 0))] h27 := hB.set 0 rfl (off := 0) rfl hh
            refine JO.end_ (JC.next (JC.ret ?_))
            have H := H h27 hE
            have hE := Ev.refl [p1] h27
            exact JK.retG1 (.agg #[.int .i64 r25.Kind, .int .i64 r25.N, .string (ba r25.S), sl r25.L]) rfl (RVal.bN p1 24 hB 0) ⟨r25, by kernel_rfl, H⟩
          · have H := H.2 (hb)
            refine JC.seq (JC.region ?_)
            refine JO.p 1 [(38, .pointer r)] ?_
            have H := H hB.ltAll
            refine JO.s 1 (OpOk.c (CallH.mono H ?_ fun _ _ hx => hx))
            rintro _ h29 ⟨r28, rfl, hS, H⟩
            have hB := hB.same hS
            have hE := Ev.refl [p1] h29
            refine JO.p 3 [(37, .bool r28)] ?_
            refine JO.end_ (JC.next ?_)
            refine JC.cd r28 (fun hb => ?_) (fun hb => ?_)
            · have H := H.1 (hb)
              refine JC.seq (JC.region ?_)
              refine JO.p 1 [(40, .pointer r)] ?_
              have H := H hB.ltAll
              refine JO.s 1 (OpOk.c (CallH.mono H ?_ fun _ _ hx => hx))
              rintro _ h31 ⟨r30, rfl, hS, H⟩
              have hB := hB.same hS
              have hE := Ev.refl [p1] h31
              refine JO.s 2 (OpOk.st [.int .i64 r30.Kind, .int .i64 r30.N, .string (ba r30.S), sl r30.L] (KeepB.st hB 0 0 4) ?_)
              intro h32 hh
              have hE := hE.set hh (by simp [add_block])
              have hB : KeepB [(p1, .cells #[.int .i64 r30.Kind, .int .i64 r30.N, .string (ba r30.S), sl r30.L] 24 (0, 0))] h32 := hB.set 0 rfl (off := 0) rfl hh
              refine JO.end_ (JC.next (JC.ret ?_))
              have H := H h32 hE
              have hE := Ev.refl [p1] h32
              exact JK.retG1 (.agg #[.int .i64 r30.Kind, .int .i64 r30.N, .string (ba r30.S), sl r30.L]) rfl (RVal.bN p1 24 hB 0) ⟨r30, by kernel_rfl, H⟩
            · have H := H.2 (hb)
              refine JC.seq (JC.region ?_)
              refine JO.p 1 [(43, .pointer r)] ?_
              have H := H hB.ltAll
              refine JO.s 1 (OpOk.c (CallH.mono H ?_ fun _ _ hx => hx))
              rintro _ h34 ⟨r33, rfl, hS, H⟩
              have hB := hB.same hS
              have hE := Ev.refl [p1] h34
              refine JO.p 3 [(42, .bool r33)] ?_
              refine JO.end_ (JC.next ?_)
              refine JC.cd r33 (fun hb => ?_) (fun hb => ?_)
              · have H := H.1 (hb)
                refine JC.seq (JC.region ?_)
                refine JO.p 1 [(45, .pointer r)] ?_
                have H := H hB.ltAll
                refine JO.s 1 (OpOk.c (CallH.mono H ?_ fun _ _ hx => hx))
                rintro _ h36 ⟨r35, rfl, hS, H⟩
                have hB := hB.same hS
                have hE := Ev.refl [p1] h36
                refine JO.s 2 (OpOk.st [.int .i64 r35.Kind, .int .i64 r35.N, .string (ba r35.S), sl r35.L] (KeepB.st hB 0 0 4) ?_)
                intro h37 hh
                have hE := hE.set hh (by simp [add_block])
                have hB : KeepB [(p1, .cells #[.int .i64 r35.Kind, .int .i64 r35.N, .string (ba r35.S), sl r35.L] 24 (0, 0))] h37 := hB.set 0 rfl (off := 0) rfl hh
                refine JO.end_ (JC.next (JC.ret ?_))
                have H := H h37 hE
                have hE := Ev.refl [p1] h37
                exact JK.retG1 (.agg #[.int .i64 r35.Kind, .int .i64 r35.N, .string (ba r35.S), sl r35.L]) rfl (RVal.bN p1 24 hB 0) ⟨r35, by kernel_rfl, H⟩
              · have H := H.2 (hb)
                refine JC.seq (JC.region ?_)
                refine JO.p 1 [(48, .pointer r)] ?_
                have H := H hB.ltAll
                refine JO.s 1 (OpOk.c (CallH.mono H ?_ fun _ _ hx => hx))
                rintro _ h39 ⟨r38, rfl, hS, H⟩
                have hB := hB.same hS
                have hE := Ev.refl [p1] h39
                refine JO.p 3 [(47, .bool r38)] ?_
                refine JO.end_ (JC.next ?_)
                refine JC.cd r38 (fun hb => ?_) (fun hb => ?_)
                · have H := H.1 (hb)
                  refine JC.seq (JC.region ?_)
                  refine JO.p 1 [(50, .pointer r)] ?_
                  have H := H hB.ltAll
                  refine JO.s 1 (OpOk.c (CallH.mono H ?_ fun _ _ hx => hx))
                  rintro _ h41 ⟨r40, rfl, hS, H⟩
                  have hB := hB.same hS
                  have hE := Ev.refl [p1] h41
                  refine JO.s 2 (OpOk.st [.int .i64 r40.Kind, .int .i64 r40.N, .string (ba r40.S), sl r40.L] (KeepB.st hB 0 0 4) ?_)
                  intro h42 hh
                  have hE := hE.set hh (by simp [add_block])
                  have hB : KeepB [(p1, .cells #[.int .i64 r40.Kind, .int .i64 r40.N, .string (ba r40.S), sl r40.L] 24 (0, 0))] h42 := hB.set 0 rfl (off := 0) rfl hh
                  refine JO.end_ (JC.next (JC.ret ?_))
                  have H := H h42 hE
                  have hE := Ev.refl [p1] h42
                  exact JK.retG1 (.agg #[.int .i64 r40.Kind, .int .i64 r40.N, .string (ba r40.S), sl r40.L]) rfl (RVal.bN p1 24 hB 0) ⟨r40, by kernel_rfl, H⟩
                · have H := H.2 (hb)
                  refine JC.seq (JC.region ?_)
                  refine JO.p 3 [(52, .bool (r3 == 123))] ?_
                  refine JO.end_ (JC.next ?_)
                  refine JC.cd (r3 == 123) (fun hb => ?_) (fun hb => ?_)
                  · have H := H.1 (hb)
                    refine JC.seq (JC.region ?_)
                    refine JO.p 1 [(55, .pointer r)] ?_
                    have H := H hB.ltAll
                    refine JO.s 1 (OpOk.c (CallH.mono H ?_ fun _ _ hx => hx))
                    rintro _ h43 ⟨rfl, hS, H⟩
                    have hB := hB.same hS
                    have hE := Ev.refl [p1] h43
                    refine JO.end_ (JC.next (JC.seq (JC.region ?_)))
                    refine JO.p 1 [(57, .pointer r)] ?_
                    have H := H hB.ltAll
                    refine JO.s 1 (OpOk.c (CallH.mono H ?_ fun _ _ hx => hx))
                    rintro _ h45 ⟨r44, rfl, hS, H⟩
                    have hB := hB.same hS
                    have hE := Ev.refl [p1] h45
                    refine JO.p 3 [(59, .agg #[.int .i64 7, .int .i64 0, .string (ba ([] : Str)), sl r44])] ?_
                    refine JO.s 3 (OpOk.st [.int .i64 7, .int .i64 0, .string (ba ([] : Str)), sl r44] (KeepB.st hB 0 0 4) ?_)
                    intro h46 hh
                    have hE := hE.set hh (by simp [add_block])
                    have hB : KeepB [(p1, .cells #[.int .i64 7, .int .i64 0, .string (ba ([] : Str)), sl r44] 24 (0, 0))] h46 := hB.set 0 rfl (off := 0) rfl hh
                    refine JO.end_ (JC.next (JC.ret ?_))
                    have H := H h46 hE
                    have hE := Ev.refl [p1] h46
                    exact JK.retG1 (.agg #[.int .i64 7, .int .i64 0, .string (ba ([] : Str)), sl r44]) rfl (RVal.bN p1 24 hB 0) ⟨(⟨7, 0, ([] : Str), r44⟩ : V_api_Term), by kernel_rfl, H⟩
                  · have H := H.2 (hb)
                    refine JC.seq (JC.region ?_)
                    refine JO.p 3 [(60, .bool (r3 == 91))] ?_
                    refine JO.end_ (JC.next ?_)
                    refine JC.cd (r3 == 91) (fun hb => ?_) (fun hb => ?_)
                    · have H := H.1 (hb)
                      refine JC.seq (JC.region ?_)
                      refine JO.p 1 [(63, .pointer r)] ?_
                      have H := H hB.ltAll
                      refine JO.s 1 (OpOk.c (CallH.mono H ?_ fun _ _ hx => hx))
                      rintro _ h48 ⟨r47, rfl, hS, H⟩
                      have hB := hB.same hS
                      have hE := Ev.refl [p1] h48
                      refine JO.s 2 (OpOk.st [.int .i64 r47.Kind, .int .i64 r47.N, .string (ba r47.S), sl r47.L] (KeepB.st hB 0 0 4) ?_)
                      intro h49 hh
                      have hE := hE.set hh (by simp [add_block])
                      have hB : KeepB [(p1, .cells #[.int .i64 r47.Kind, .int .i64 r47.N, .string (ba r47.S), sl r47.L] 24 (0, 0))] h49 := hB.set 0 rfl (off := 0) rfl hh
                      refine JO.end_ (JC.next (JC.ret ?_))
                      have H := H h49 hE
                      have hE := Ev.refl [p1] h49
                      exact JK.retG1 (.agg #[.int .i64 r47.Kind, .int .i64 r47.N, .string (ba r47.S), sl r47.L]) rfl (RVal.bN p1 24 hB 0) ⟨r47, by kernel_rfl, H⟩
                    · have H := H.2 (hb)
                      refine JC.skip (JC.next (JC.seq (JC.region ?_)))
                      refine JO.p 1 [(65, .pointer r)] ?_
                      refine JO.y 1 (Yld.np na5) ?_
                      refine JO.p 3 [(67, .pointer (some (a5.add 2)))] ?_
                      obtain ⟨hs, H⟩ := H
                      refine JO.s 3 (OpOk.st [.bool true] hs ?_)
                      intro h50 hh
                      obtain ⟨hS, H⟩ := H h50 hh
                      have hB := hB.same hS
                      have hE := Ev.refl [p1] h50
                      refine JO.end_ (JC.next (JC.seq (JC.region ?_)))
                      refine JO.p 1 [(68, .agg #[.int .i64 0, .int .i64 0, .string (ba ([] : Str)), sl (⟨none, 0, 0⟩ : Sl)])] ?_
                      refine JO.s 1 (OpOk.st [.int .i64 0, .int .i64 0, .string (ba ([] : Str)), sl (⟨none, 0, 0⟩ : Sl)] (KeepB.st hB 0 0 4) ?_)
                      intro h51 hh
                      have hE := hE.set hh (by simp [add_block])
                      have hB : KeepB [(p1, .cells #[.int .i64 0, .int .i64 0, .string (ba ([] : Str)), sl (⟨none, 0, 0⟩ : Sl)] 24 (0, 0))] h51 := hB.set 0 rfl (off := 0) rfl hh
                      refine JO.end_ (JC.next (JC.ret ?_))
                      have H := H h51 hE
                      have hE := Ev.refl [p1] h51
                      exact JK.retG1 (.agg #[.int .i64 0, .int .i64 0, .string (ba ([] : Str)), sl (⟨none, 0, 0⟩ : Sl)]) rfl (RVal.bN p1 24 hB 0) ⟨(⟨0, 0, ([] : Str), (⟨none, 0, 0⟩ : Sl)⟩ : V_api_Term), by kernel_rfl, H⟩

def F_tenureref02_Check.body (t : V_api_Term) (h : Hp) (K : Int → Hp → Prop) (X : Chain → Hp → Prop) : Prop :=
∀ (p1 : Nat) (h2 : Hp), New p1 h h2 → Ev [p1] h h2 → (LtAll [p1] h2 → F_tenureref02_parts.call t h2 (fun (r3 : Bool) (h4 : Hp) => SameOn [p1] h2 h4 ∧ ((!r3) = true → K 2 h4) ∧
((!r3) = false → (LtAll [p1] h4 → F_tenureref02_Words.call t h4 (fun (r5 : Int) (h6 : Hp) => SameOn [p1] h4 h6 ∧ (r5 > 65536 → K 3 h6) ∧
(¬ (r5 > 65536) → K 0 h6)) X))) X)
theorem F_tenureref02_Check.sound {t : V_api_Term} {h : Hp} {K : Int → Hp → Prop} {X : Chain → Hp → Prop} (H : F_tenureref02_Check.body t h K X) : F_tenureref02_Check.call t h K X := by
  unfold F_tenureref02_Check.body at H
  refine CallH.of Tryz.func57 rfl rfl fun w0 hw0 => ?_
  refine JC.seq (JC.region ?_)
  refine JO.s 0 (OpOk.bp [.int .i64 t.Kind, .int .i64 t.N, .string (ba t.S), sl t.L] 24 ?_)
  intro p1 h2 hp hh
  have hE := Ev.refl [] h
  have hB := KeepB.nil h
  have hNp1 : Array.size h ≤ p1 := hp ▸ hE.size
  have hB : KeepB [(p1, .cells #[.int .i64 t.Kind, .int .i64 t.N, .string (ba t.S), sl t.L] 24 (0, 0))] h2 := hB.push hp hh
  have hE := hE.push hp hh
  refine JO.p 2 [(2, .int .i64 0)] ?_
  refine JO.end_ (JC.next (JC.seq (JC.seq (JC.region ?_))))
  refine JO.y 0 (Yld.lne (KeepB.c hB 0 0 [.int .i64 t.Kind, .int .i64 t.N, .string (ba t.S), sl t.L])) ?_
  have H := H p1 h2 ⟨hNp1, hB.l 0⟩ hE
  have hE := Ev.refl [p1] h2
  have H := H hB.ltAll
  refine JO.s 1 (OpOk.c (CallH.mono H ?_ fun _ _ hx => hx))
  rintro _ h4 ⟨r3, rfl, hS, H⟩
  have hB := hB.same hS
  have hE := Ev.refl [p1] h4
  refine JO.p 3 [(5, .bool (!r3))] ?_
  refine JO.end_ (JC.next ?_)
  refine JC.cd (!r3) (fun hb => ?_) (fun hb => ?_)
  · have H := H.1 (hb)
    refine JC.seq (JC.region ?_)
    refine JO.p 1 [(2, .int .i64 2)] ?_
    refine JO.end_ (JC.next (JC.ret ?_))
    exact JK.retG1 (.int .i64 2) rfl RVal.s ⟨2, by kernel_rfl, H⟩
  · have H := H.2 (hb)
    refine JC.skip (JC.next (JC.seq (JC.seq (JC.region ?_))))
    refine JO.y 0 (Yld.lne (KeepB.c hB 0 0 [.int .i64 t.Kind, .int .i64 t.N, .string (ba t.S), sl t.L])) ?_
    have H := H hB.ltAll
    refine JO.s 1 (OpOk.c (CallH.mono H ?_ fun _ _ hx => hx))
    rintro _ h6 ⟨r5, rfl, hS, H⟩
    have hB := hB.same hS
    have hE := Ev.refl [p1] h6
    refine JO.p 3 [(8, .bool (decide (r5 > 65536)))] ?_
    refine JO.end_ (JC.next ?_)
    refine JC.cd (decide (r5 > 65536)) (fun hb => ?_) (fun hb => ?_)
    · have H := H.1 (of_decide_eq_true hb)
      refine JC.seq (JC.region ?_)
      refine JO.p 1 [(2, .int .i64 3)] ?_
      refine JO.end_ (JC.next (JC.ret ?_))
      exact JK.retG1 (.int .i64 3) rfl RVal.s ⟨3, by kernel_rfl, H⟩
    · have H := H.2 (of_decide_eq_false hb)
      refine JC.skip (JC.next (JC.seq (JC.region ?_)))
      refine JO.p 1 [(2, .int .i64 0)] ?_
      refine JO.end_ (JC.next (JC.ret ?_))
      exact JK.retG1 (.int .i64 0) rfl RVal.s ⟨0, by kernel_rfl, H⟩

def F_term_MakeList.body (l : Sl) (a1_tail : V_api_Term) (h : Hp) (K : V_api_Term → Hp → Prop) (X : Chain → Hp → Prop) : Prop :=
AllocW h 24 [.int .i64 a1_tail.Kind, .int .i64 a1_tail.N, .string (ba a1_tail.S), sl a1_tail.L] (fun (p1 : Nat) (h2 : Hp) => AllocW h2 24 [.int .i64 0, .int .i64 0, .string (ba ([] : Str)), sl (⟨none, 0, 0⟩ : Sl)] (fun (p3 : Nat) (h4 : Hp) => F_slices_Backward_api_Term_api_Term.call l h4 (fun (r5 : Value) (h6 : Hp) => RangeW Tryz.prog r5 h6 (fun (x7 : Int × V_api_Term) => [.int .i64 x7.1, .agg #[.int .i64 x7.2.Kind, .int .i64 x7.2.N, .string (ba x7.2.S), sl x7.2.L]]) (fun (x7 : Int × V_api_Term) h8 beg9 next10 jump11 =>
AllocW h8 24 [.int .i64 0, .int .i64 0, .string (ba ([] : Str)), sl (⟨none, 0, 0⟩ : Sl)] (fun (p12 : Nat) (h13 : Hp) => StoreW h13 ⟨p12, 0, none⟩ [.int .i64 x7.2.Kind, .int .i64 x7.2.N, .string (ba x7.2.S), sl x7.2.L] (fun (h14 : Hp) => beg9 h14 (fun h15 =>
LoadW h15 ⟨p12, 0, none⟩ V_api_Term.cells (fun (x16 : V_api_Term) => LoadW h15 ⟨p1, 0, none⟩ V_api_Term.cells (fun (x17 : V_api_Term) => AllocW h15 24 [.int .i64 x16.Kind, .int .i64 x16.N, .string (ba x16.S), sl x16.L, .int .i64 x17.Kind, .int .i64 x17.N, .string (ba x17.S), sl x17.L] (fun (p18 : Nat) (h19 : Hp) => StoreW h19 ⟨p1, 0, none⟩ [.int .i64 9, .int .i64 0, .string (ba ([] : Str)), sl (⟨some ⟨p18, 0, none⟩, 2, 2⟩ : Sl)] (fun (h20 : Hp) => next10 h20))))))))
  (fun D21 h22 => LoadW h22 ⟨p1, 0, none⟩ V_api_Term.cells (fun (x24 : V_api_Term) => StoreW h22 ⟨p3, 0, none⟩ [.int .i64 x24.Kind, .int .i64 x24.N, .string (ba x24.S), sl x24.L] (fun (h25 : Hp) => ShutW (D21 :: []) h25 (fun h26 => LoadW h26 ⟨p3, 0, none⟩ V_api_Term.cells (fun (x27 : V_api_Term) => K x27 h26)))))
  (fun D21 c23 h22 => False)) noX))
theorem F_term_MakeList.sound {l : Sl} {a1_tail : V_api_Term} {h : Hp} {K : V_api_Term → Hp → Prop} {X : Chain → Hp → Prop} (H : F_term_MakeList.body l a1_tail h K X) : F_term_MakeList.call l a1_tail h K X := by
  unfold F_term_MakeList.body at H
  refine CallH.ofM Tryz.func62 rfl rfl fun w0 hw0 => ?_
  refine JC.seq (JC.region ?_)
  refine JO.s 0 (OpOk.bp [.int .i64 a1_tail.Kind, .int .i64 a1_tail.N, .string (ba a1_tail.S), sl a1_tail.L] 24 ?_)
  intro p1 h2 hp hh
  have H := H p1 h2 hp hh
  refine JO.s 1 (OpOk.bp [.int .i64 0, .int .i64 0, .string (ba ([] : Str)), sl (⟨none, 0, 0⟩ : Sl)] 24 ?_)
  intro p3 h4 hp hh
  have H := H p3 h4 hp hh
  refine JO.end_ (JC.next (JC.seq (JC.seq (JC.region ?_))))
  refine JO.p 1 [(7, sl l)] ?_
  refine JO.s 1 (OpOk.c (CallH.mono H ?_ fun _ _ hx => hx))
  rintro r5 h6 ⟨_, rfl, H⟩
  refine JO.end_ (JC.next (JC.block ?_))
  refine JC.rangeF (T := Int × V_api_Term) r5 [0] [(3, .pointer (some ⟨p1, 0, none⟩))] H ?_ ?_ ?_
  · rintro x7 lx7 w1 Rx7 Nb h8 beg9 next10 jump11 H hbeg9 hnext10 hjump11
    refine JC.region ?_
    refine JO.s 0 (OpOk.bp [.int .i64 0, .int .i64 0, .string (ba ([] : Str)), sl (⟨none, 0, 0⟩ : Sl)] 24 ?_)
    intro p12 h13 hp hh
    have H := H p12 h13 hp hh
    obtain ⟨hs, H⟩ := H
    refine JO.s 1 (OpOk.st [.int .i64 x7.2.Kind, .int .i64 x7.2.N, .string (ba x7.2.S), sl x7.2.L] hs ?_)
    intro h14 hh
    have H := H h14 hh
    refine JO.end_ ?_
    refine hbeg9 _ _ _ H (fun h15 H => ?_)
    refine JC.block (JC.region ?_)
    obtain ⟨x16, lx16, H⟩ := H
    refine JO.y 0 (Yld.lne lx16) ?_
    obtain ⟨x17, lx17, H⟩ := H
    refine JO.y 1 (Yld.lne lx17) ?_
    refine JO.s 2 (OpOk.bs 2 [.int .i64 x16.Kind, .int .i64 x16.N, .string (ba x16.S), sl x16.L, .int .i64 x17.Kind, .int .i64 x17.N, .string (ba x17.S), sl x17.L] 24 ?_)
    intro p18 h19 hp hh
    have H := H p18 h19 hp hh
    refine JO.p 4 [(14, .agg #[.int .i64 9, .int .i64 0, .string (ba ([] : Str)), sl (⟨some ⟨p18, 0, none⟩, 2, 2⟩ : Sl)])] ?_
    obtain ⟨hs, H⟩ := H
    refine JO.s 4 (OpOk.st [.int .i64 9, .int .i64 0, .string (ba ([] : Str)), sl (⟨some ⟨p18, 0, none⟩, 2, 2⟩ : Sl)] hs ?_)
    intro h20 hh
    have H := H h20 hh
    refine JO.end_ ?_
    exact hnext10 _ _ H
  · rintro D21 h22 H
    refine JC.next (JC.seq (JC.region ?_))
    obtain ⟨x24, lx24, H⟩ := H
    refine JO.y 0 (Yld.lne lx24) ?_
    obtain ⟨hs, H⟩ := H
    refine JO.s 1 (OpOk.st [.int .i64 x24.Kind, .int .i64 x24.N, .string (ba x24.S), sl x24.L] hs ?_)
    intro h25 hh
    have H := H h25 hh
    refine JO.end_ (JC.next (JC.ret ?_))
    refine JK.retM1 (Ds := (D21 :: [])) (ShutW.mono (fun h26 H => ?_) H)
    obtain ⟨x27, lx27, H⟩ := H
    exact ⟨.agg #[.int .i64 x27.Kind, .int .i64 x27.N, .string (ba x27.S), sl x27.L], RVal.hN lx27, ⟨x27, by kernel_rfl, H⟩⟩
  · rintro _ _ _ ⟨⟩

def F_tenureref05_Text.body (t : V_api_Term) (h : Hp) (K : Str → Hp → Prop) (X : Chain → Hp → Prop) : Prop :=
((t.Kind == 1) = true → ∀ (p1 : Nat) (h2 : Hp), New p1 h h2 → Ev [p1] h h2 → (LtAll [p1] h2 → F_tenureref05_Dec.call t.N h2 (fun (r3 : Str) (h4 : Hp) => SameOn [p1] h2 h4 ∧ K r3 h4) X)) ∧
((t.Kind == 1) = false → ((t.Kind == 2) = true → ∀ (p1 : Nat) (h2 : Hp), New p1 h h2 → Ev [p1] h h2 → (LtAll [p1] h2 → F_tenureref05_Plain.call t.S h2 (fun (r5 : Bool) (h6 : Hp) => SameOn [p1] h2 h6 ∧ (r5 = true → K t.S h6) ∧
(r5 = false → (LtAll [p1] h6 → F_tenureref05_quoted.call t.S h6 (fun (r7 : Str) (h8 : Hp) => SameOn [p1] h6 h8 ∧ K r7 h8) X))) X)) ∧
((t.Kind == 2) = false → ((t.Kind == 3) = true → ∀ (p1 : Nat) (h2 : Hp), New p1 h h2 → Ev [p1] h h2 → (LtAll [p1] h2 → F_tenureref05_Dec.call t.N h2 (fun (r9 : Str) (h10 : Hp) => SameOn [p1] h2 h10 ∧ (([35, 82, 101, 102, 60] : Str).length + r9.length ≤ maxLen) ∧ ((([35, 82, 101, 102, 60] : Str) ++ r9).length + ([62] : Str).length ≤ maxLen) ∧ K ((([35, 82, 101, 102, 60] : Str) ++ r9) ++ ([62] : Str)) h10) X)) ∧
((t.Kind == 3) = false → ((t.Kind == 4) = true → ∀ (p1 : Nat) (h2 : Hp), New p1 h h2 → Ev [p1] h h2 → (LtAll [p1] h2 → F_tenureref05_Dec.call t.N h2 (fun (r13 : Str) (h14 : Hp) => SameOn [p1] h2 h14 ∧ (([35, 84, 105, 100, 60] : Str).length + r13.length ≤ maxLen) ∧ ((([35, 84, 105, 100, 60] : Str) ++ r13).length + ([62] : Str).length ≤ maxLen) ∧ K ((([35, 84, 105, 100, 60] : Str) ++ r13) ++ ([62] : Str)) h14) X)) ∧
((t.Kind == 4) = false → ((t.Kind == 6) = true → ∀ (p1 : Nat) (h2 : Hp), New p1 h h2 → Ev [p1] h h2 → (LtAll [p1] h2 → F_tenureref05_Dec.call t.N h2 (fun (r17 : Str) (h18 : Hp) => SameOn [p1] h2 h18 ∧ (([60, 48, 46] : Str).length + r17.length ≤ maxLen) ∧ ((([60, 48, 46] : Str) ++ r17).length + ([46, 48, 62] : Str).length ≤ maxLen) ∧ K ((([60, 48, 46] : Str) ++ r17) ++ ([46, 48, 62] : Str)) h18) X)) ∧
((t.Kind == 6) = false → ((t.Kind == 5) = true → ∀ (p1 : Nat) (h2 : Hp), New p1 h h2 → Ev [p1] h h2 → (LtAll [p1] h2 → F_tenureref05_Dec.call t.N h2 (fun (r21 : Str) (h22 : Hp) => SameOn [p1] h2 h22 ∧ (([35, 70, 117, 110, 60] : Str).length + r21.length ≤ maxLen) ∧ LoopW (fun (s24 : Str × Int) h25 next26 =>
(s24.2 < (t.L.len : Int) → (s24.1.length + ([44] : Str).length ≤ maxLen) ∧ IdxW t.L s24.2 (fun (b30 : Addr) => LoadW h25 (b30.add (s24.2.toNat * 4)) V_api_Term.cells (fun (x31 : V_api_Term) => (LtAll [p1] h25 → F_tenureref05_Text.call x31 h25 (fun (r32 : Str) (h33 : Hp) => SameOn [p1] h25 h33 ∧ ((s24.1 ++ ([44] : Str)).length + r32.length ≤ maxLen) ∧ ∀ (x35 : Int), x35 = IntKind.i64.wrap (s24.2 + 1) → next26 ((s24.1 ++ ([44] : Str)) ++ r32, x35) h33) X)))) ∧
(¬ (s24.2 < (t.L.len : Int)) → (s24.1.length + ([62] : Str).length ≤ maxLen) ∧ K (s24.1 ++ ([62] : Str)) h25)) (([35, 70, 117, 110, 60] : Str) ++ r21, 0) h22) X)) ∧
((t.Kind == 5) = false → ((t.Kind == 7) = true → ∀ (p1 : Nat) (h2 : Hp), New p1 h h2 → Ev [p1] h h2 → (LtAll [p1] h2 → F_tenureref05_all.call t.L h2 (fun (r37 : Str) (h38 : Hp) => SameOn [p1] h2 h38 ∧ (([123] : Str).length + r37.length ≤ maxLen) ∧ ((([123] : Str) ++ r37).length + ([125] : Str).length ≤ maxLen) ∧ K ((([123] : Str) ++ r37) ++ ([125] : Str)) h38) X)) ∧
((t.Kind == 7) = false → ((t.Kind == 8) = true → ∀ (p1 : Nat) (h2 : Hp), New p1 h h2 → Ev [p1] h h2 → K ([91, 93] : Str) h2) ∧
((t.Kind == 8) = false → IdxW t.L 0 (fun (b42 : Addr) => ∀ (p1 : Nat) (h2 : Hp), New p1 h h2 → Ev [p1] h h2 → LoadW h2 (b42.add ((0 : Int).toNat * 4)) V_api_Term.cells (fun (x43 : V_api_Term) => (LtAll [p1] h2 → F_tenureref05_Text.call x43 h2 (fun (r44 : Str) (h45 : Hp) => SameOn [p1] h2 h45 ∧ (([91] : Str).length + r44.length ≤ maxLen) ∧ IdxW t.L 1 (fun (b48 : Addr) => LoadW h45 (b48.add ((1 : Int).toNat * 4)) V_api_Term.cells (fun (x49 : V_api_Term) => ∀ (h50 : Hp), Ev [p1] h45 h50 → LoopW (fun (s51 : Str × V_api_Term) h52 next53 =>
((s51.2.Kind == 9) = true → (s51.1.length + ([44] : Str).length ≤ maxLen) ∧ IdxW s51.2.L 0 (fun (b57 : Addr) => LoadW h52 (b57.add ((0 : Int).toNat * 4)) V_api_Term.cells (fun (x58 : V_api_Term) => (LtAll [p1] h52 → F_tenureref05_Text.call x58 h52 (fun (r59 : Str) (h60 : Hp) => SameOn [p1] h52 h60 ∧ ((s51.1 ++ ([44] : Str)).length + r59.length ≤ maxLen) ∧ IdxW s51.2.L 1 (fun (b63 : Addr) => LoadW h60 (b63.add ((1 : Int).toNat * 4)) V_api_Term.cells (fun (x64 : V_api_Term) => ∀ (h65 : Hp), Ev [p1] h60 h65 → next53 ((s51.1 ++ ([44] : Str)) ++ r59, x64) h65))) X)))) ∧
((s51.2.Kind == 9) = false → ((s51.2.Kind == 8) = true → (s51.1.length + ([93] : Str).length ≤ maxLen) ∧ K (s51.1 ++ ([93] : Str)) h52) ∧
((s51.2.Kind == 8) = false → (s51.1.length + ([124] : Str).length ≤ maxLen) ∧ (LtAll [p1] h52 → F_tenureref05_Text.call s51.2 h52 (fun (r68 : Str) (h69 : Hp) => SameOn [p1] h52 h69 ∧ ((s51.1 ++ ([124] : Str)).length + r68.length ≤ maxLen) ∧ (((s51.1 ++ ([124] : Str)) ++ r68).length + ([93] : Str).length ≤ maxLen) ∧ K (((s51.1 ++ ([124] : Str)) ++ r68) ++ ([93] : Str)) h69) X)))) (([91] : Str) ++ r44, x49) h50))) X)))))))))))
theorem F_tenureref05_Text.sound {t : V_api_Term} {h : Hp} {K : Str → Hp → Prop} {X : Chain → Hp → Prop} (H : F_tenureref05_Text.body t h K X) : F_tenureref05_Text.call t h K X := by
  unfold F_tenureref05_Text.body at H
  refine CallH.of Tryz.func65 rfl rfl fun w0 hw0 => ?_
  refine JC.seq (JC.region ?_)
  refine JO.s 0 (OpOk.bp [.int .i64 t.Kind, .int .i64 t.N, .string (ba t.S), sl t.L] 24 ?_)
  intro p1 h2 hp hh
  have hE := Ev.refl [] h
  have hB := KeepB.nil h
  have hNp1 : Array.size h ≤ p1 := hp ▸ hE.size
  have hB : KeepB [(p1, .cells #[.int .i64 t.Kind, .int .i64 t.N, .string (ba t.S), sl t.L] 24 (0, 0))] h2 := hB.push hp hh
  have hE := hE.push hp hh
  refine JO.p 2 [(2, .string (ba ([] : Str)))] ?_
  refine JO.end_ (JC.next (JC.seq (JC.seq (JC.region ?_))))
  refine JO.p 1 [(6, .pointer (some ((⟨p1, 0, none⟩ : Addr).add 0)))] ?_
  refine JO.y 1 (Yld.le (KeepB.c hB 0 0 [.int .i64 t.Kind])) ?_
  refine JO.end_ (JC.next (JC.block (JC.seq (JC.region ?_))))
  refine JO.p 2 [(8, .bool (t.Kind == 1))] ?_
  refine JO.end_ (JC.next ?_)
  refine JC.cd (t.Kind == 1) (fun hb => ?_) (fun hb => ?_)
  · have H := H.1 (hb)
    refine JC.seq (JC.region ?_)
    refine JO.p 1 [(10, .pointer (some ((⟨p1, 0, none⟩ : Addr).add 1)))] ?_
    refine JO.y 1 (Yld.le (KeepB.c hB 0 1 [.int .i64 t.N])) ?_
    have H := H p1 h2 ⟨hNp1, hB.l 0⟩ hE
    have hE := Ev.refl [p1] h2
    have H := H hB.ltAll
    refine JO.s 2 (OpOk.c (CallH.mono H ?_ fun _ _ hx => hx))
    rintro _ h4 ⟨r3, rfl, hS, H⟩
    have hB := hB.same hS
    have hE := Ev.refl [p1] h4
    refine JO.p 4 [(2, .string (ba r3))] ?_
    refine JO.end_ (JC.next (JC.ret ?_))
    exact JK.retG1 (.string (ba r3)) rfl RVal.s ⟨r3, by kernel_rfl, H⟩
  · have H := H.2 (hb)
    refine JC.seq (JC.region ?_)
    refine JO.p 2 [(13, .bool (t.Kind == 2))] ?_
    refine JO.end_ (JC.next ?_)
    refine JC.cd (t.Kind == 2) (fun hb => ?_) (fun hb => ?_)
    · have H := H.1 (hb)
      refine JC.seq (JC.seq (JC.region ?_))
      refine JO.p 1 [(15, .pointer (some ((⟨p1, 0, none⟩ : Addr).add 2)))] ?_
      refine JO.y 1 (Yld.le (KeepB.c hB 0 2 [.string (ba t.S)])) ?_
      have H := H p1 h2 ⟨hNp1, hB.l 0⟩ hE
      have hE := Ev.refl [p1] h2
      have H := H hB.ltAll
      refine JO.s 2 (OpOk.c (CallH.mono H ?_ fun _ _ hx => hx))
      rintro _ h6 ⟨r5, rfl, hS, H⟩
      have hB := hB.same hS
      have hE := Ev.refl [p1] h6
      refine JO.end_ (JC.next ?_)
      refine JC.cd r5 (fun hb => ?_) (fun hb => ?_)
      · have H := H.1 (hb)
        refine JC.seq (JC.region ?_)
        refine JO.p 1 [(18, .pointer (some ((⟨p1, 0, none⟩ : Addr).add 2)))] ?_
        refine JO.y 1 (Yld.le (KeepB.c hB 0 2 [.string (ba t.S)])) ?_
        refine JO.p 3 [(2, .string (ba t.S))] ?_
        refine JO.end_ (JC.next (JC.ret ?_))
        exact JK.retG1 (.string (ba t.S)) rfl RVal.s ⟨t.S, by kernel_rfl, H⟩
      · have H := H.2 (hb)
        refine JC.skip (JC.next (JC.seq (JC.region ?_)))
        refine JO.p 1 [(20, .pointer (some ((⟨p1, 0, none⟩ : Addr).add 2)))] ?_
        refine JO.y 1 (Yld.le (KeepB.c hB 0 2 [.string (ba t.S)])) ?_
        have H := H hB.ltAll
        refine JO.s 2 (OpOk.c (CallH.mono H ?_ fun _ _ hx => hx))
        rintro _ h8 ⟨r7, rfl, hS, H⟩
        have hB := hB.same hS
        have hE := Ev.refl [p1] h8
        refine JO.p 4 [(2, .string (ba r7))] ?_
        refine JO.end_ (JC.next (JC.ret ?_))
        exact JK.retG1 (.string (ba r7)) rfl RVal.s ⟨r7, by kernel_rfl, H⟩
    · have H := H.2 (hb)
      refine JC.seq (JC.region ?_)
      refine JO.p 2 [(23, .bool (t.Kind == 3))] ?_
      refine JO.end_ (JC.next ?_)
      refine JC.cd (t.Kind == 3) (fun hb => ?_) (fun hb => ?_)
      · have H := H.1 (hb)
        refine JC.seq (JC.region ?_)
        refine JO.p 1 [(25, .pointer (some ((⟨p1, 0, none⟩ : Addr).add 1)))] ?_
        refine JO.y 1 (Yld.le (KeepB.c hB 0 1 [.int .i64 t.N])) ?_
        have H := H p1 h2 ⟨hNp1, hB.l 0⟩ hE
        have hE := Ev.refl [p1] h2
        have H := H hB.ltAll
        refine JO.s 2 (OpOk.c (CallH.mono H ?_ fun _ _ hx => hx))
        rintro _ h10 ⟨r9, rfl, hS, H⟩
        have hB := hB.same hS
        have hE := Ev.refl [p1] h10
        obtain ⟨q11, H⟩ := H
        refine JO.y 3 (Yld.cc ([35, 82, 101, 102, 60] : Str) r9 q11) ?_
        obtain ⟨q12, H⟩ := H
        refine JO.y 4 (Yld.cc (([35, 82, 101, 102, 60] : Str) ++ r9) ([62] : Str) q12) ?_
        refine JO.p 6 [(2, .string (ba ((([35, 82, 101, 102, 60] : Str) ++ r9) ++ ([62] : Str))))] ?_
        refine JO.end_ (JC.next (JC.ret ?_))
        exact JK.retG1 (.string (ba ((([35, 82, 101, 102, 60] : Str) ++ r9) ++ ([62] : Str)))) rfl RVal.s ⟨(([35, 82, 101, 102, 60] : Str) ++ r9) ++ ([62] : Str), by kernel_rfl, H⟩
      · have H := H.2 (hb)
        refine JC.seq (JC.region ?_)
        refine JO.p 2 [(30, .bool (t.Kind == 4))] ?_
        refine JO.end_ (JC.next ?_)
        refine JC.cd (t.Kind == 4) (fun hb => ?_) (fun hb => ?_)
        · have H := H.1 (hb)
          refine JC.seq (JC.region ?_)
          refine JO.p 1 [(32, .pointer (some ((⟨p1, 0, none⟩ : Addr).add 1)))] ?_
          refine JO.y 1 (Yld.le (KeepB.c hB 0 1 [.int .i64 t.N])) ?_
          have H := H p1 h2 ⟨hNp1, hB.l 0⟩ hE
          have hE := Ev.refl [p1] h2
          have H := H hB.ltAll
          refine JO.s 2 (OpOk.c (CallH.mono H ?_ fun _ _ hx => hx))
          rintro _ h14 ⟨r13, rfl, hS, H⟩
          have hB := hB.same hS
          have hE := Ev.refl [p1] h14
          obtain ⟨q15, H⟩ := H
          refine JO.y 3 (Yld.cc ([35, 84, 105, 100, 60] : Str) r13 q15) ?_
          obtain ⟨q16, H⟩ := H
          refine JO.y 4 (Yld.cc (([35, 84, 105, 100, 60] : Str) ++ r13) ([62] : Str) q16) ?_
          refine JO.p 6 [(2, .string (ba ((([35, 84, 105, 100, 60] : Str) ++ r13) ++ ([62] : Str))))] ?_
          refine JO.end_ (JC.next (JC.ret ?_))
          exact JK.retG1 (.string (ba ((([35, 84, 105, 100, 60] : Str) ++ r13) ++ ([62] : Str)))) rfl RVal.s ⟨(([35, 84, 105, 100, 60] : Str) ++ r13) ++ ([62] : Str), by kernel_rfl, H⟩
        · have H := H.2 (hb)
          refine JC.seq (JC.region ?_)
          refine JO.p 2 [(37, .bool (t.Kind == 6))] ?_
          refine JO.end_ (JC.next ?_)
          refine JC.cd (t.Kind == 6) (fun hb => ?_) (fun hb => ?_)
          · have H := H.1 (hb)
            refine JC.seq (JC.region ?_)
            refine JO.p 1 [(39, .pointer (some ((⟨p1, 0, none⟩ : Addr).add 1)))] ?_
            refine JO.y 1 (Yld.le (KeepB.c hB 0 1 [.int .i64 t.N])) ?_
            have H := H p1 h2 ⟨hNp1, hB.l 0⟩ hE
            have hE := Ev.refl [p1] h2
            have H := H hB.ltAll
            refine JO.s 2 (OpOk.c (CallH.mono H ?_ fun _ _ hx => hx))
            rintro _ h18 ⟨r17, rfl, hS, H⟩
            have hB := hB.same hS
            have hE := Ev.refl [p1] h18
            obtain ⟨q19, H⟩ := H
            refine JO.y 3 (Yld.cc ([60, 48, 46] : Str) r17 q19) ?_
            obtain ⟨q20, H⟩ := H
            refine JO.y 4 (Yld.cc (([60, 48, 46] : Str) ++ r17) ([46, 48, 62] : Str) q20) ?_
            refine JO.p 6 [(2, .string (ba ((([60, 48, 46] : Str) ++ r17) ++ ([46, 48, 62] : Str))))] ?_
            refine JO.end_ (JC.next (JC.ret ?_))
            exact JK.retG1 (.string (ba ((([60, 48, 46] : Str) ++ r17) ++ ([46, 48, 62] : Str)))) rfl RVal.s ⟨(([60, 48, 46] : Str) ++ r17) ++ ([46, 48, 62] : Str), by kernel_rfl, H⟩
          · have H := H.2 (hb)
            refine JC.seq (JC.region ?_)
            refine JO.p 2 [(44, .bool (t.Kind == 5))] ?_
            refine JO.end_ (JC.next ?_)
            refine JC.cd (t.Kind == 5) (fun hb => ?_) (fun hb => ?_)
            · have H := H.1 (hb)
              refine JC.seq (JC.region ?_)
              refine JO.p 1 [(46, .pointer (some ((⟨p1, 0, none⟩ : Addr).add 1)))] ?_
              refine JO.y 1 (Yld.le (KeepB.c hB 0 1 [.int .i64 t.N])) ?_
              have H := H p1 h2 ⟨hNp1, hB.l 0⟩ hE
              have hE := Ev.refl [p1] h2
              have H := H hB.ltAll
              refine JO.s 2 (OpOk.c (CallH.mono H ?_ fun _ _ hx => hx))
              rintro _ h22 ⟨r21, rfl, hS, H⟩
              have hB := hB.same hS
              have hE := Ev.refl [p1] h22
              obtain ⟨q23, H⟩ := H
              refine JO.y 3 (Yld.cc ([35, 70, 117, 110, 60] : Str) r21 q23) ?_
              refine JO.p 5 [(3, .string (ba (([35, 70, 117, 110, 60] : Str) ++ r21)))] ?_
              refine JO.end_ (JC.next (JC.seq (JC.seq (JC.region ?_))))
              refine JO.p 1 [(4, .int .i64 0)] ?_
              refine JO.end_ (JC.next (JC.block ?_))
              obtain ⟨I27, μI27, hI27, H⟩ := H
              refine JC.loop (S := Str × Int) (fun s24 => [(1, .pointer (some ⟨p1, 0, none⟩)), (3, .string (ba s24.1)), (4, .int .i64 s24.2)]) (fun s24 h' => KeepB [(p1, .cells #[.int .i64 t.Kind, .int .i64 t.N, .string (ba t.S), sl t.L] 24 (0, 0))] h' ∧ I27 s24 h') μI27 (([35, 70, 117, 110, 60] : Str) ++ r21, 0) Sub.kk ⟨hB, hI27⟩ ?_
              rintro s24 h25 ⟨hB, hI⟩
              have H := H s24 h25 hI
              have hE := Ev.refl [p1] h25
              refine JC.seq (JC.seq (JC.region ?_))
              refine JO.p 2 [(50, .int .i64 s24.2), (51, .pointer (some ((⟨p1, 0, none⟩ : Addr).add 3)))] ?_
              refine JO.y 2 (Yld.le (KeepB.c hB 0 3 [sl t.L])) ?_
              refine JO.p 5 [(54, .bool (decide (s24.2 < (t.L.len : Int))))] ?_
              refine JO.end_ (JC.next ?_)
              refine JC.cd (decide (s24.2 < (t.L.len : Int))) (fun hb => ?_) (fun hb => ?_)
              · have H := H.1 (of_decide_eq_true hb)
                refine JC.skip (JC.next (JC.seq (JC.block (JC.region ?_))))
                refine JO.p 1 [(57, .string (ba s24.1))] ?_
                obtain ⟨q28, H⟩ := H
                refine JO.y 1 (Yld.cc s24.1 ([44] : Str) q28) ?_
                refine JO.p 3 [(59, .pointer (some ((⟨p1, 0, none⟩ : Addr).add 3)))] ?_
                refine JO.y 3 (Yld.le (KeepB.c hB 0 3 [sl t.L])) ?_
                refine JO.p 5 [(61, .int .i64 s24.2)] ?_
                obtain ⟨qb30, qb30', b30, eb30, H⟩ := H
                refine JO.y 5 (Yld.ia 24 4 .i64 t.L b30 s24.2 ⟨qb30, qb30'⟩ eb30) ?_
                obtain ⟨x31, lx31, H⟩ := H
                refine JO.y 6 (Yld.lne lx31) ?_
                have H := H hB.ltAll
                refine JO.s 7 (OpOk.c (CallH.mono H ?_ fun _ _ hx => hx))
                rintro _ h33 ⟨r32, rfl, hS, H⟩
                have hB := hB.same hS
                have hE := Ev.refl [p1] h33
                obtain ⟨q34, H⟩ := H
                refine JO.y 8 (Yld.cc (s24.1 ++ ([44] : Str)) r32 q34) ?_
                refine JO.p 10 [(3, .string (ba ((s24.1 ++ ([44] : Str)) ++ r32)))] ?_
                refine JO.end_ (JC.next (JC.region ?_))
                refine JO.p 2 [(56, .int .i64 (IntKind.i64.wrap (s24.2 + 1)))] ?_
                let x35 : Int := IntKind.i64.wrap (s24.2 + 1)
                have H := H x35 rfl
                refine JO.p 3 [(4, .int .i64 x35)] ?_
                refine JO.end_ ?_
                exact JK.inv ((s24.1 ++ ([44] : Str)) ++ r32, x35) Sub.kk ⟨⟨hB, H.1⟩, H.2⟩
              · have H := H.2 (of_decide_eq_false hb)
                refine JC.exit rfl ?_
                refine JC.next (JC.seq (JC.region ?_))
                refine JO.p 1 [(66, .string (ba s24.1))] ?_
                obtain ⟨q36, H⟩ := H
                refine JO.y 1 (Yld.cc s24.1 ([62] : Str) q36) ?_
                refine JO.p 3 [(2, .string (ba (s24.1 ++ ([62] : Str))))] ?_
                refine JO.end_ (JC.next (JC.ret ?_))
                exact JK.retG1 (.string (ba (s24.1 ++ ([62] : Str)))) rfl RVal.s ⟨s24.1 ++ ([62] : Str), by kernel_rfl, H⟩
            · have H := H.2 (hb)
              refine JC.seq (JC.region ?_)
              refine JO.p 2 [(68, .bool (t.Kind == 7))] ?_
              refine JO.end_ (JC.next ?_)
              refine JC.cd (t.Kind == 7) (fun hb => ?_) (fun hb => ?_)
              · have H := H.1 (hb)
                refine JC.seq (JC.region ?_)
                refine JO.p 1 [(70, .pointer (some ((⟨p1, 0, none⟩ : Addr).add 3)))] ?_
                refine JO.y 1 (Yld.le (KeepB.c hB 0 3 [sl t.L])) ?_
                have H := H p1 h2 ⟨hNp1, hB.l 0⟩ hE
                have hE := Ev.refl [p1] h2
                have H := H hB.ltAll
                refine JO.s 2 (OpOk.c (CallH.mono H ?_ fun _ _ hx => hx))
                rintro _ h38 ⟨r37, rfl, hS, H⟩
                have hB := hB.same hS
                have hE := Ev.refl [p1] h38
                obtain ⟨q39, H⟩ := H
                refine JO.y 3 (Yld.cc ([123] : Str) r37 q39) ?_
                obtain ⟨q40, H⟩ := H
                refine JO.y 4 (Yld.cc (([123] : Str) ++ r37) ([125] : Str) q40) ?_
                refine JO.p 6 [(2, .string (ba ((([123] : Str) ++ r37) ++ ([125] : Str))))] ?_
                refine JO.end_ (JC.next (JC.ret ?_))
                exact JK.retG1 (.string (ba ((([123] : Str) ++ r37) ++ ([125] : Str)))) rfl RVal.s ⟨(([123] : Str) ++ r37) ++ ([125] : Str), by kernel_rfl, H⟩
              · have H := H.2 (hb)
                refine JC.seq (JC.region ?_)
                refine JO.p 2 [(75, .bool (t.Kind == 8))] ?_
                refine JO.end_ (JC.next ?_)
                refine JC.cd (t.Kind == 8) (fun hb => ?_) (fun hb => ?_)
                · have H := H.1 (hb)
                  refine JC.seq (JC.region ?_)
                  refine JO.p 1 [(2, .string (ba ([91, 93] : Str)))] ?_
                  refine JO.end_ (JC.next (JC.ret ?_))
                  have H := H p1 h2 ⟨hNp1, hB.l 0⟩ hE
                  have hE := Ev.refl [p1] h2
                  exact JK.retG1 (.string (ba ([91, 93] : Str))) rfl RVal.s ⟨([91, 93] : Str), by kernel_rfl, H⟩
                · have H := H.2 (hb)
                  refine JC.skip (JC.next (JC.seq (JC.region ?_)))
                  refine JO.p 1 [(77, .pointer (some ((⟨p1, 0, none⟩ : Addr).add 3)))] ?_
                  refine JO.y 1 (Yld.le (KeepB.c hB 0 3 [sl t.L])) ?_
                  obtain ⟨qb42, qb42', b42, eb42, H⟩ := H
                  refine JO.y 2 (Yld.ia 24 4 .i64 t.L b42 0 ⟨qb42, qb42'⟩ eb42) ?_
                  have H := H p1 h2 ⟨hNp1, hB.l 0⟩ hE
                  have hE := Ev.refl [p1] h2
                  obtain ⟨x43, lx43, H⟩ := H
                  refine JO.y 3 (Yld.lne lx43) ?_
                  have H := H hB.ltAll
                  refine JO.s 4 (OpOk.c (CallH.mono H ?_ fun _ _ hx => hx))
                  rintro _ h45 ⟨r44, rfl, hS, H⟩
                  have hB := hB.same hS
                  have hE := Ev.refl [p1] h45
                  obtain ⟨q46, H⟩ := H
                  refine JO.y 5 (Yld.cc ([91] : Str) r44 q46) ?_
                  refine JO.p 7 [(5, .string (ba (([91] : Str) ++ r44)))] ?_
                  refine JO.end_ (JC.next (JC.seq (JC.region ?_)))
                  refine JO.p 1 [(83, .pointer (some ((⟨p1, 0, none⟩ : Addr).add 3)))] ?_
                  refine JO.y 1 (Yld.le (KeepB.c hB 0 3 [sl t.L])) ?_
                  obtain ⟨qb48, qb48', b48, eb48, H⟩ := H
                  refine JO.y 2 (Yld.ia 24 4 .i64 t.L b48 1 ⟨qb48, qb48'⟩ eb48) ?_
                  obtain ⟨x49, lx49, H⟩ := H
                  refine JO.y 3 (Yld.lne lx49) ?_
                  refine JO.s 4 (OpOk.st [.int .i64 x49.Kind, .int .i64 x49.N, .string (ba x49.S), sl x49.L] (KeepB.st hB 0 0 4) ?_)
                  intro h50 hh
                  have hE := hE.set hh (by simp [add_block])
                  have hB : KeepB [(p1, .cells #[.int .i64 x49.Kind, .int .i64 x49.N, .string (ba x49.S), sl x49.L] 24 (0, 0))] h50 := hB.set 0 rfl (off := 0) rfl hh
                  refine JO.end_ (JC.next (JC.seq (JC.block ?_)))
                  have H := H h50 hE
                  have hE := Ev.refl [p1] h50
                  obtain ⟨I54, μI54, hI54, H⟩ := H
                  refine JC.loop (S := Str × V_api_Term) (fun s51 => [(1, .pointer (some ⟨p1, 0, none⟩)), (5, .string (ba s51.1))]) (fun s51 h' => KeepB [(p1, .cells #[.int .i64 s51.2.Kind, .int .i64 s51.2.N, .string (ba s51.2.S), sl s51.2.L] 24 (0, 0))] h' ∧ I54 s51 h') μI54 (([91] : Str) ++ r44, x49) Sub.kk ⟨hB, hI54⟩ ?_
                  rintro s51 h52 ⟨hB, hI⟩
                  have H := H s51 h52 hI
                  have hE := Ev.refl [p1] h52
                  refine JC.seq (JC.seq (JC.region ?_))
                  refine JO.p 1 [(87, .pointer (some ((⟨p1, 0, none⟩ : Addr).add 0)))] ?_
                  refine JO.y 1 (Yld.le (KeepB.c hB 0 0 [.int .i64 s51.2.Kind])) ?_
                  refine JO.p 3 [(89, .bool (s51.2.Kind == 9))] ?_
                  refine JO.end_ (JC.next ?_)
                  refine JC.cd (s51.2.Kind == 9) (fun hb => ?_) (fun hb => ?_)
                  · have H := H.1 (hb)
                    refine JC.skip (JC.next (JC.block (JC.seq (JC.region ?_))))
                    refine JO.p 1 [(90, .string (ba s51.1))] ?_
                    obtain ⟨q55, H⟩ := H
                    refine JO.y 1 (Yld.cc s51.1 ([44] : Str) q55) ?_
                    refine JO.p 3 [(92, .pointer (some ((⟨p1, 0, none⟩ : Addr).add 3)))] ?_
                    refine JO.y 3 (Yld.le (KeepB.c hB 0 3 [sl s51.2.L])) ?_
                    obtain ⟨qb57, qb57', b57, eb57, H⟩ := H
                    refine JO.y 4 (Yld.ia 24 4 .i64 s51.2.L b57 0 ⟨qb57, qb57'⟩ eb57) ?_
                    obtain ⟨x58, lx58, H⟩ := H
                    refine JO.y 5 (Yld.lne lx58) ?_
                    have H := H hB.ltAll
                    refine JO.s 6 (OpOk.c (CallH.mono H ?_ fun _ _ hx => hx))
                    rintro _ h60 ⟨r59, rfl, hS, H⟩
                    have hB := hB.same hS
                    have hE := Ev.refl [p1] h60
                    obtain ⟨q61, H⟩ := H
                    refine JO.y 7 (Yld.cc (s51.1 ++ ([44] : Str)) r59 q61) ?_
                    refine JO.p 9 [(5, .string (ba ((s51.1 ++ ([44] : Str)) ++ r59)))] ?_
                    refine JO.end_ (JC.next (JC.region ?_))
                    refine JO.p 1 [(98, .pointer (some ((⟨p1, 0, none⟩ : Addr).add 3)))] ?_
                    refine JO.y 1 (Yld.le (KeepB.c hB 0 3 [sl s51.2.L])) ?_
                    obtain ⟨qb63, qb63', b63, eb63, H⟩ := H
                    refine JO.y 2 (Yld.ia 24 4 .i64 s51.2.L b63 1 ⟨qb63, qb63'⟩ eb63) ?_
                    obtain ⟨x64, lx64, H⟩ := H
                    refine JO.y 3 (Yld.lne lx64) ?_
                    refine JO.s 4 (OpOk.st [.int .i64 x64.Kind, .int .i64 x64.N, .string (ba x64.S), sl x64.L] (KeepB.st hB 0 0 4) ?_)
                    intro h65 hh
                    have hE := hE.set hh (by simp [add_block])
                    have hB : KeepB [(p1, .cells #[.int .i64 x64.Kind, .int .i64 x64.N, .string (ba x64.S), sl x64.L] 24 (0, 0))] h65 := hB.set 0 rfl (off := 0) rfl hh
                    refine JO.end_ ?_
                    have H := H h65 hE
                    have hE := Ev.refl [p1] h65
                    exact JK.inv ((s51.1 ++ ([44] : Str)) ++ r59, x64) Sub.kk ⟨⟨hB, H.1⟩, H.2⟩
                  · have H := H.2 (hb)
                    refine JC.exit rfl ?_
                    refine JC.next (JC.seq (JC.seq (JC.region ?_)))
                    refine JO.p 1 [(102, .pointer (some ((⟨p1, 0, none⟩ : Addr).add 0)))] ?_
                    refine JO.y 1 (Yld.le (KeepB.c hB 0 0 [.int .i64 s51.2.Kind])) ?_
                    refine JO.p 3 [(104, .bool (s51.2.Kind == 8))] ?_
                    refine JO.end_ (JC.next ?_)
                    refine JC.cd (s51.2.Kind == 8) (fun hb => ?_) (fun hb => ?_)
                    · have H := H.1 (hb)
                      refine JC.seq (JC.region ?_)
                      refine JO.p 1 [(105, .string (ba s51.1))] ?_
                      obtain ⟨q66, H⟩ := H
                      refine JO.y 1 (Yld.cc s51.1 ([93] : Str) q66) ?_
                      refine JO.p 3 [(2, .string (ba (s51.1 ++ ([93] : Str))))] ?_
                      refine JO.end_ (JC.next (JC.ret ?_))
                      exact JK.retG1 (.string (ba (s51.1 ++ ([93] : Str)))) rfl RVal.s ⟨s51.1 ++ ([93] : Str), by kernel_rfl, H⟩
                    · have H := H.2 (hb)
                      refine JC.skip (JC.next (JC.seq (JC.region ?_)))
                      refine JO.p 1 [(107, .string (ba s51.1))] ?_
                      obtain ⟨q67, H⟩ := H
                      refine JO.y 1 (Yld.cc s51.1 ([124] : Str) q67) ?_
                      refine JO.y 2 (Yld.lne (KeepB.c hB 0 0 [.int .i64 s51.2.Kind, .int .i64 s51.2.N, .string (ba s51.2.S), sl s51.2.L])) ?_
                      have H := H hB.ltAll
                      refine JO.s 3 (OpOk.c (CallH.mono H ?_ fun _ _ hx => hx))
                      rintro _ h69 ⟨r68, rfl, hS, H⟩
                      have hB := hB.same hS
                      have hE := Ev.refl [p1] h69
                      obtain ⟨q70, H⟩ := H
                      refine JO.y 4 (Yld.cc (s51.1 ++ ([124] : Str)) r68 q70) ?_
                      obtain ⟨q71, H⟩ := H
                      refine JO.y 5 (Yld.cc ((s51.1 ++ ([124] : Str)) ++ r68) ([93] : Str) q71) ?_
                      refine JO.p 7 [(2, .string (ba (((s51.1 ++ ([124] : Str)) ++ r68) ++ ([93] : Str))))] ?_
                      refine JO.end_ (JC.next (JC.ret ?_))
                      exact JK.retG1 (.string (ba (((s51.1 ++ ([124] : Str)) ++ r68) ++ ([93] : Str)))) rfl RVal.s ⟨((s51.1 ++ ([124] : Str)) ++ r68) ++ ([93] : Str), by kernel_rfl, H⟩

def F_text_cursor_term.body (c : Option Addr) (h : Hp) (K : V_api_Term → Hp → Prop) (X : Chain → Hp → Prop) : Prop :=
∀ (p1 : Nat) (h2 : Hp), New p1 h h2 → Ev [p1] h h2 → (LtAll [p1] h2 → F_text_cursor_is.call c ([123] : Str) h2 (fun (r3 : Bool) (h4 : Hp) => SameOn [p1] h2 h4 ∧ (r3 = true → (LtAll [p1] h4 → F_text_cursor_all.call c ([125] : Str) h4 (fun (r5 : Sl) (h6 : Hp) => SameOn [p1] h4 h6 ∧ ∀ (h7 : Hp), Ev [p1] h6 h7 → K (⟨7, 0, ([] : Str), r5⟩ : V_api_Term) h7) X)) ∧
(r3 = false → (LtAll [p1] h4 → F_text_cursor_is.call c ([91] : Str) h4 (fun (r8 : Bool) (h9 : Hp) => SameOn [p1] h4 h9 ∧ (r8 = true → (LtAll [p1] h9 → F_text_cursor_list.call c h9 (fun (r10 : V_api_Term) (h11 : Hp) => SameOn [p1] h9 h11 ∧ ∀ (h12 : Hp), Ev [p1] h11 h12 → K r10 h12) X)) ∧
(r8 = false → (LtAll [p1] h9 → F_text_cursor_is.call c ([39] : Str) h9 (fun (r13 : Bool) (h14 : Hp) => SameOn [p1] h9 h14 ∧ (r13 = true → (LtAll [p1] h14 → F_text_cursor_quoted.call c h14 (fun (r15 : V_api_Term) (h16 : Hp) => SameOn [p1] h14 h16 ∧ ∀ (h17 : Hp), Ev [p1] h16 h17 → K r15 h17) X)) ∧
(r13 = false → (LtAll [p1] h14 → F_text_cursor_is.call c ([35, 82, 101, 102, 60] : Str) h14 (fun (r18 : Bool) (h19 : Hp) => SameOn [p1] h14 h19 ∧ (r18 = true → (LtAll [p1] h19 → F_text_cursor_named.call c 3 ([62] : Str) h19 (fun (r20 : V_api_Term) (h21 : Hp) => SameOn [p1] h19 h21 ∧ ∀ (h22 : Hp), Ev [p1] h21 h22 → K r20 h22) X)) ∧
(r18 = false → (LtAll [p1] h19 → F_text_cursor_is.call c ([35, 84, 105, 100, 60] : Str) h19 (fun (r23 : Bool) (h24 : Hp) => SameOn [p1] h19 h24 ∧ (r23 = true → (LtAll [p1] h24 → F_text_cursor_named.call c 4 ([62] : Str) h24 (fun (r25 : V_api_Term) (h26 : Hp) => SameOn [p1] h24 h26 ∧ ∀ (h27 : Hp), Ev [p1] h26 h27 → K r25 h27) X)) ∧
(r23 = false → (LtAll [p1] h24 → F_text_cursor_is.call c ([60, 48, 46] : Str) h24 (fun (r28 : Bool) (h29 : Hp) => SameOn [p1] h24 h29 ∧ (r28 = true → (LtAll [p1] h29 → F_text_cursor_named.call c 6 ([46, 48, 62] : Str) h29 (fun (r30 : V_api_Term) (h31 : Hp) => SameOn [p1] h29 h31 ∧ ∀ (h32 : Hp), Ev [p1] h31 h32 → K r30 h32) X)) ∧
(r28 = false → (LtAll [p1] h29 → F_text_cursor_is.call c ([35, 70, 117, 110, 60] : Str) h29 (fun (r33 : Bool) (h34 : Hp) => SameOn [p1] h29 h34 ∧ (r33 = true → (LtAll [p1] h34 → F_text_cursor_fun.call c h34 (fun (r35 : V_api_Term) (h36 : Hp) => SameOn [p1] h34 h36 ∧ ∀ (h37 : Hp), Ev [p1] h36 h37 → K r35 h37) X)) ∧
(r33 = false → JoinW (fun (k38 : Bool → Hp → Prop) =>
NilW c (fun (a41 : Addr) => LoadW h34 (a41.add 1) (cI .i64) (fun (x42 : Int) => LoadW h34 (a41.add 0) cS (fun (x43 : Str) => (x42 < (x43.length : Int) → (0 ≤ x42 ∧ x42 < x43.length) ∧ (LtAll [p1] h34 → F_text_small.call (bt x43 x42) h34 (fun (r46 : Bool) (h47 : Hp) => SameOn [p1] h34 h47 ∧ k38 r46 h47) X)) ∧
(¬ (x42 < (x43.length : Int)) → k38 false h34))))) (fun (s39 : Bool) h40 =>
(s39 = true → (LtAll [p1] h40 → F_text_cursor_plain.call c h40 (fun (r48 : V_api_Term) (h49 : Hp) => SameOn [p1] h40 h49 ∧ ∀ (h50 : Hp), Ev [p1] h49 h50 → K r48 h50) X)) ∧
(s39 = false → (LtAll [p1] h40 → F_text_cursor_number.call c (-576460752303423488) 576460752303423487 h40 (fun (r51 : Int) (h52 : Hp) => SameOn [p1] h40 h52 ∧ ∀ (h53 : Hp), Ev [p1] h52 h53 → K (⟨1, r51, ([] : Str), (⟨none, 0, 0⟩ : Sl)⟩ : V_api_Term) h53) X))))) X))) X))) X))) X))) X))) X))) X)
theorem F_text_cursor_term.sound {c : Option Addr} {h : Hp} {K : V_api_Term → Hp → Prop} {X : Chain → Hp → Prop} (H : F_text_cursor_term.body c h K X) : F_text_cursor_term.call c h K X := by
  unfold F_text_cursor_term.body at H
  refine CallH.of Tryz.func68 rfl rfl fun w0 hw0 => ?_
  refine JC.seq (JC.region ?_)
  refine JO.s 0 (OpOk.bp [.int .i64 0, .int .i64 0, .string (ba ([] : Str)), sl (⟨none, 0, 0⟩ : Sl)] 24 ?_)
  intro p1 h2 hp hh
  have hE := Ev.refl [] h
  have hB := KeepB.nil h
  have hNp1 : Array.size h ≤ p1 := hp ▸ hE.size
  have hB : KeepB [(p1, .cells #[.int .i64 0, .int .i64 0, .string (ba ([] : Str)), sl (⟨none, 0, 0⟩ : Sl)] 24 (0, 0))] h2 := hB.push hp hh
  have hE := hE.push hp hh
  refine JO.end_ (JC.next (JC.seq (JC.block (JC.seq (JC.region ?_)))))
  refine JO.p 1 [(4, .pointer c)] ?_
  have H := H p1 h2 ⟨hNp1, hB.l 0⟩ hE
  have hE := Ev.refl [p1] h2
  have H := H hB.ltAll
  refine JO.s 1 (OpOk.c (CallH.mono H ?_ fun _ _ hx => hx))
  rintro _ h4 ⟨r3, rfl, hS, H⟩
  have hB := hB.same hS
  have hE := Ev.refl [p1] h4
  refine JO.p 3 [(3, .bool r3)] ?_
  refine JO.end_ (JC.next ?_)
  refine JC.cd r3 (fun hb => ?_) (fun hb => ?_)
  · have H := H.1 (hb)
    refine JC.seq (JC.region ?_)
    refine JO.p 1 [(6, .pointer c)] ?_
    have H := H hB.ltAll
    refine JO.s 1 (OpOk.c (CallH.mono H ?_ fun _ _ hx => hx))
    rintro _ h6 ⟨r5, rfl, hS, H⟩
    have hB := hB.same hS
    have hE := Ev.refl [p1] h6
    refine JO.p 3 [(8, .agg #[.int .i64 7, .int .i64 0, .string (ba ([] : Str)), sl r5])] ?_
    refine JO.s 3 (OpOk.st [.int .i64 7, .int .i64 0, .string (ba ([] : Str)), sl r5] (KeepB.st hB 0 0 4) ?_)
    intro h7 hh
    have hE := hE.set hh (by simp [add_block])
    have hB : KeepB [(p1, .cells #[.int .i64 7, .int .i64 0, .string (ba ([] : Str)), sl r5] 24 (0, 0))] h7 := hB.set 0 rfl (off := 0) rfl hh
    refine JO.end_ (JC.next (JC.ret ?_))
    have H := H h7 hE
    have hE := Ev.refl [p1] h7
    exact JK.retG1 (.agg #[.int .i64 7, .int .i64 0, .string (ba ([] : Str)), sl r5]) rfl (RVal.bN p1 24 hB 0) ⟨(⟨7, 0, ([] : Str), r5⟩ : V_api_Term), by kernel_rfl, H⟩
  · have H := H.2 (hb)
    refine JC.seq (JC.region ?_)
    refine JO.p 1 [(10, .pointer c)] ?_
    have H := H hB.ltAll
    refine JO.s 1 (OpOk.c (CallH.mono H ?_ fun _ _ hx => hx))
    rintro _ h9 ⟨r8, rfl, hS, H⟩
    have hB := hB.same hS
    have hE := Ev.refl [p1] h9
    refine JO.p 3 [(9, .bool r8)] ?_
    refine JO.end_ (JC.next ?_)
    refine JC.cd r8 (fun hb => ?_) (fun hb => ?_)
    · have H := H.1 (hb)
      refine JC.seq (JC.region ?_)
      refine JO.p 1 [(12, .pointer c)] ?_
      have H := H hB.ltAll
      refine JO.s 1 (OpOk.c (CallH.mono H ?_ fun _ _ hx => hx))
      rintro _ h11 ⟨r10, rfl, hS, H⟩
      have hB := hB.same hS
      have hE := Ev.refl [p1] h11
      refine JO.s 2 (OpOk.st [.int .i64 r10.Kind, .int .i64 r10.N, .string (ba r10.S), sl r10.L] (KeepB.st hB 0 0 4) ?_)
      intro h12 hh
      have hE := hE.set hh (by simp [add_block])
      have hB : KeepB [(p1, .cells #[.int .i64 r10.Kind, .int .i64 r10.N, .string (ba r10.S), sl r10.L] 24 (0, 0))] h12 := hB.set 0 rfl (off := 0) rfl hh
      refine JO.end_ (JC.next (JC.ret ?_))
      have H := H h12 hE
      have hE := Ev.refl [p1] h12
      exact JK.retG1 (.agg #[.int .i64 r10.Kind, .int .i64 r10.N, .string (ba r10.S), sl r10.L]) rfl (RVal.bN p1 24 hB 0) ⟨r10, by kernel_rfl, H⟩
    · have H := H.2 (hb)
      refine JC.seq (JC.region ?_)
      refine JO.p 1 [(15, .pointer c)] ?_
      have H := H hB.ltAll
      refine JO.s 1 (OpOk.c (CallH.mono H ?_ fun _ _ hx => hx))
      rintro _ h14 ⟨r13, rfl, hS, H⟩
      have hB := hB.same hS
      have hE := Ev.refl [p1] h14
      refine JO.p 3 [(14, .bool r13)] ?_
      refine JO.end_ (JC.next ?_)
      refine JC.cd r13 (fun hb => ?_) (fun hb => ?_)
      · have H := H.1 (hb)
        refine JC.seq (JC.region ?_)
        refine JO.p 1 [(17, .pointer c)] ?_
        have H := H hB.ltAll
        refine JO.s 1 (OpOk.c (CallH.mono H ?_ fun _ _ hx => hx))
        rintro _ h16 ⟨r15, rfl, hS, H⟩
        have hB := hB.same hS
        have hE := Ev.refl [p1] h16
        refine JO.s 2 (OpOk.st [.int .i64 r15.Kind, .int .i64 r15.N, .string (ba r15.S), sl r15.L] (KeepB.st hB 0 0 4) ?_)
        intro h17 hh
        have hE := hE.set hh (by simp [add_block])
        have hB : KeepB [(p1, .cells #[.int .i64 r15.Kind, .int .i64 r15.N, .string (ba r15.S), sl r15.L] 24 (0, 0))] h17 := hB.set 0 rfl (off := 0) rfl hh
        refine JO.end_ (JC.next (JC.ret ?_))
        have H := H h17 hE
        have hE := Ev.refl [p1] h17
        exact JK.retG1 (.agg #[.int .i64 r15.Kind, .int .i64 r15.N, .string (ba r15.S), sl r15.L]) rfl (RVal.bN p1 24 hB 0) ⟨r15, by kernel_rfl, H⟩
      · have H := H.2 (hb)
        refine JC.seq (JC.region ?_)
        refine JO.p 1 [(20, .pointer c)] ?_
        have H := H hB.ltAll
        refine JO.s 1 (OpOk.c (CallH.mono H ?_ fun _ _ hx => hx))
        rintro _ h19 ⟨r18, rfl, hS, H⟩
        have hB := hB.same hS
        have hE := Ev.refl [p1] h19
        refine JO.p 3 [(19, .bool r18)] ?_
        refine JO.end_ (JC.next ?_)
        refine JC.cd r18 (fun hb => ?_) (fun hb => ?_)
        · have H := H.1 (hb)
          refine JC.seq (JC.region ?_)
          refine JO.p 1 [(22, .pointer c)] ?_
          have H := H hB.ltAll
          refine JO.s 1 (OpOk.c (CallH.mono H ?_ fun _ _ hx => hx))
          rintro _ h21 ⟨r20, rfl, hS, H⟩
          have hB := hB.same hS
          have hE := Ev.refl [p1] h21
          refine JO.s 2 (OpOk.st [.int .i64 r20.Kind, .int .i64 r20.N, .string (ba r20.S), sl r20.L] (KeepB.st hB 0 0 4) ?_)
          intro h22 hh
          have hE := hE.set hh (by simp [add_block])
          have hB : KeepB [(p1, .cells #[.int .i64 r20.Kind, .int .i64 r20.N, .string (ba r20.S), sl r20.L] 24 (0, 0))] h22 := hB.set 0 rfl (off := 0) rfl hh
          refine JO.end_ (JC.next (JC.ret ?_))
          have H := H h22 hE
          have hE := Ev.refl [p1] h22
          exact JK.retG1 (.agg #[.int .i64 r20.Kind, .int .i64 r20.N, .string (ba r20.S), sl r20.L]) rfl (RVal.bN p1 24 hB 0) ⟨r20, by kernel_rfl, H⟩
        · have H := H.2 (hb)
          refine JC.seq (JC.region ?_)
          refine JO.p 1 [(25, .pointer c)] ?_
          have H := H hB.ltAll
          refine JO.s 1 (OpOk.c (CallH.mono H ?_ fun _ _ hx => hx))
          rintro _ h24 ⟨r23, rfl, hS, H⟩
          have hB := hB.same hS
          have hE := Ev.refl [p1] h24
          refine JO.p 3 [(24, .bool r23)] ?_
          refine JO.end_ (JC.next ?_)
          refine JC.cd r23 (fun hb => ?_) (fun hb => ?_)
          · have H := H.1 (hb)
            refine JC.seq (JC.region ?_)
            refine JO.p 1 [(27, .pointer c)] ?_
            have H := H hB.ltAll
            refine JO.s 1 (OpOk.c (CallH.mono H ?_ fun _ _ hx => hx))
            rintro _ h26 ⟨r25, rfl, hS, H⟩
            have hB := hB.same hS
            have hE := Ev.refl [p1] h26
            refine JO.s 2 (OpOk.st [.int .i64 r25.Kind, .int .i64 r25.N, .string (ba r25.S), sl r25.L] (KeepB.st hB 0 0 4) ?_)
            intro h27 hh
            have hE := hE.set hh (by simp [add_block])
            have hB : KeepB [(p1, .cells #[.int .i64 r25.Kind, .int .i64 r25.N, .string (ba r25.S), sl r25.L] 24 (0, 0))] h27 := hB.set 0 rfl (off := 0) rfl hh
            refine JO.end_ (JC.next (JC.ret ?_))
            have H := H h27 hE
            have hE := Ev.refl [p1] h27
            exact JK.retG1 (.agg #[.int .i64 r25.Kind, .int .i64 r25.N, .string (ba r25.S), sl r25.L]) rfl (RVal.bN p1 24 hB 0) ⟨r25, by kernel_rfl, H⟩
          · have H := H.2 (hb)
            refine JC.seq (JC.region ?_)
            refine JO.p 1 [(30, .pointer c)] ?_
            have H := H hB.ltAll
            refine JO.s 1 (OpOk.c (CallH.mono H ?_ fun _ _ hx => hx))
            rintro _ h29 ⟨r28, rfl, hS, H⟩
            have hB := hB.same hS
            have hE := Ev.refl [p1] h29
            refine JO.p 3 [(29, .bool r28)] ?_
            refine JO.end_ (JC.next ?_)
            refine JC.cd r28 (fun hb => ?_) (fun hb => ?_)
            · have H := H.1 (hb)
              refine JC.seq (JC.region ?_)
              refine JO.p 1 [(32, .pointer c)] ?_
              have H := H hB.ltAll
              refine JO.s 1 (OpOk.c (CallH.mono H ?_ fun _ _ hx => hx))
              rintro _ h31 ⟨r30, rfl, hS, H⟩
              have hB := hB.same hS
              have hE := Ev.refl [p1] h31
              refine JO.s 2 (OpOk.st [.int .i64 r30.Kind, .int .i64 r30.N, .string (ba r30.S), sl r30.L] (KeepB.st hB 0 0 4) ?_)
              intro h32 hh
              have hE := hE.set hh (by simp [add_block])
              have hB : KeepB [(p1, .cells #[.int .i64 r30.Kind, .int .i64 r30.N, .string (ba r30.S), sl r30.L] 24 (0, 0))] h32 := hB.set 0 rfl (off := 0) rfl hh
              refine JO.end_ (JC.next (JC.ret ?_))
              have H := H h32 hE
              have hE := Ev.refl [p1] h32
              exact JK.retG1 (.agg #[.int .i64 r30.Kind, .int .i64 r30.N, .string (ba r30.S), sl r30.L]) rfl (RVal.bN p1 24 hB 0) ⟨r30, by kernel_rfl, H⟩
            · have H := H.2 (hb)
              refine JC.seq (JC.region ?_)
              refine JO.p 1 [(35, .pointer c)] ?_
              have H := H hB.ltAll
              refine JO.s 1 (OpOk.c (CallH.mono H ?_ fun _ _ hx => hx))
              rintro _ h34 ⟨r33, rfl, hS, H⟩
              have hB := hB.same hS
              have hE := Ev.refl [p1] h34
              refine JO.p 3 [(34, .bool r33)] ?_
              refine JO.end_ (JC.next ?_)
              refine JC.cd r33 (fun hb => ?_) (fun hb => ?_)
              · have H := H.1 (hb)
                refine JC.seq (JC.region ?_)
                refine JO.p 1 [(37, .pointer c)] ?_
                have H := H hB.ltAll
                refine JO.s 1 (OpOk.c (CallH.mono H ?_ fun _ _ hx => hx))
                rintro _ h36 ⟨r35, rfl, hS, H⟩
                have hB := hB.same hS
                have hE := Ev.refl [p1] h36
                refine JO.s 2 (OpOk.st [.int .i64 r35.Kind, .int .i64 r35.N, .string (ba r35.S), sl r35.L] (KeepB.st hB 0 0 4) ?_)
                intro h37 hh
                have hE := hE.set hh (by simp [add_block])
                have hB : KeepB [(p1, .cells #[.int .i64 r35.Kind, .int .i64 r35.N, .string (ba r35.S), sl r35.L] 24 (0, 0))] h37 := hB.set 0 rfl (off := 0) rfl hh
                refine JO.end_ (JC.next (JC.ret ?_))
                have H := H h37 hE
                have hE := Ev.refl [p1] h37
                exact JK.retG1 (.agg #[.int .i64 r35.Kind, .int .i64 r35.N, .string (ba r35.S), sl r35.L]) rfl (RVal.bN p1 24 hB 0) ⟨r35, by kernel_rfl, H⟩
              · have H := H.2 (hb)
                refine JC.seq ?_
                obtain ⟨k38, H, Hk38⟩ := H
                refine JC.via (S := Bool) (fun s39 => [(0, .pointer c), (2, .pointer (some ⟨p1, 0, none⟩)), (39, .bool s39)]) (fun s39 h' => KeepB [(p1, .cells #[.int .i64 0, .int .i64 0, .string (ba ([] : Str)), sl (⟨none, 0, 0⟩ : Sl)] 24 (0, 0))] h' ∧ k38 s39 h') ?_ ?_
                · refine JC.rd 23 ?_
                  refine JD.rr 0 (.pointer c) ?_
                  obtain ⟨a41, na41, H⟩ := H
                  refine JD.t 1 (Yld.np na41) ?_
                  refine JD.rr 2 (.pointer (some (a41.add 1))) ?_
                  obtain ⟨x42, lx42, H⟩ := H
                  refine JD.hold (HoldS.cells 3 lx42) ?_
                  refine JD.t 3 Yld.lh ?_
                  refine JD.rr 4 (.pointer c) ?_
                  refine JD.t 5 (Yld.np na41) ?_
                  refine JD.rr 6 (.pointer (some (a41.add 0))) ?_
                  obtain ⟨x43, lx43, H⟩ := H
                  refine JD.hold (HoldS.cells 7 lx43) ?_
                  refine JD.t 7 Yld.lh ?_
                  refine JD.rr 8 (.int .i64 (x43.length : Int)) ?_
                  refine JD.rr 9 (.bool (decide (x42 < (x43.length : Int)))) ?_
                  refine JD.rr 10 (.bool (decide (x42 < (x43.length : Int)))) ?_
                  refine JD.cs 50 (decide (x42 < (x43.length : Int))) (fun hc44 => ?_) (fun hc44 => ?_)
                  · have H := H.1 (of_decide_eq_true hc44)
                    refine JD.rr 11 (.pointer c) ?_
                    refine JD.t 12 (Yld.np na41) ?_
                    refine JD.rr 13 (.pointer (some (a41.add 0))) ?_
                    refine JD.hold (HoldS.cells 14 lx43) ?_
                    refine JD.t 14 Yld.lh ?_
                    refine JD.rr 15 (.pointer c) ?_
                    refine JD.t 16 (Yld.np na41) ?_
                    refine JD.rr 17 (.pointer (some (a41.add 1))) ?_
                    refine JD.hold (HoldS.cells 18 lx42) ?_
                    refine JD.t 18 Yld.lh ?_
                    obtain ⟨q45, H⟩ := H
                    refine JD.t 19 (Yld.ix .i64 x43 x42 q45) ?_
                    have H := H hB.ltAll
                    refine JD.o 20 (OpOk.c (CallH.mono H ?_ fun _ _ hx => hx))
                    rintro _ h47 ⟨r46, rfl, hS, H⟩
                    have hB := hB.same hS
                    have hE := Ev.refl [p1] h47
                    refine ⟨(HoldS.drop 18 20 (HoldS.drop 14 20 (HoldS.drop 7 20 (HoldS.drop 3 20 HoldS.nil)))), ?_⟩
                    refine JD.rr 21 (.bool r46) ?_
                    refine JD.rr 22 (.bool r46) ?_
                    refine JD.e ?_
                    exact JK.inv r46 (Sub.of (by skip; (try rw [hc44]); first | done | kernel_rfl)) ⟨hB, H⟩
                  · have H := H.2 (of_decide_eq_false hc44)
                    refine JD.k 11 ?_
                    refine JD.k 12 ?_
                    refine JD.k 13 ?_
                    refine JD.k 14 ?_
                    refine JD.k 15 ?_
                    refine JD.k 16 ?_
                    refine JD.k 17 ?_
                    refine JD.k 18 ?_
                    refine JD.k 19 ?_
                    refine JD.k 20 ?_
                    refine JD.rr 21 (.bool false) ?_
                    refine JD.rr 22 (.bool false) ?_
                    refine JD.e ?_
                    exact JK.inv false (Sub.of (by skip; (try rw [hc44]); first | done | kernel_rfl)) ⟨hB, H⟩
                rintro s39 h40 ⟨hB, hk⟩
                have H := Hk38 s39 h40 hk
                have hE := Ev.refl [p1] h40
                refine JC.next ?_
                refine JC.cd s39 (fun hb => ?_) (fun hb => ?_)
                · have H := H.1 (hb)
                  refine JC.seq (JC.region ?_)
                  refine JO.p 1 [(62, .pointer c)] ?_
                  have H := H hB.ltAll
                  refine JO.s 1 (OpOk.c (CallH.mono H ?_ fun _ _ hx => hx))
                  rintro _ h49 ⟨r48, rfl, hS, H⟩
                  have hB := hB.same hS
                  have hE := Ev.refl [p1] h49
                  refine JO.s 2 (OpOk.st [.int .i64 r48.Kind, .int .i64 r48.N, .string (ba r48.S), sl r48.L] (KeepB.st hB 0 0 4) ?_)
                  intro h50 hh
                  have hE := hE.set hh (by simp [add_block])
                  have hB : KeepB [(p1, .cells #[.int .i64 r48.Kind, .int .i64 r48.N, .string (ba r48.S), sl r48.L] 24 (0, 0))] h50 := hB.set 0 rfl (off := 0) rfl hh
                  refine JO.end_ (JC.next (JC.ret ?_))
                  have H := H h50 hE
                  have hE := Ev.refl [p1] h50
                  exact JK.retG1 (.agg #[.int .i64 r48.Kind, .int .i64 r48.N, .string (ba r48.S), sl r48.L]) rfl (RVal.bN p1 24 hB 0) ⟨r48, by kernel_rfl, H⟩
                · have H := H.2 (hb)
                  refine JC.skip (JC.next (JC.seq (JC.region ?_)))
                  refine JO.p 1 [(64, .pointer c)] ?_
                  have H := H hB.ltAll
                  refine JO.s 1 (OpOk.c (CallH.mono H ?_ fun _ _ hx => hx))
                  rintro _ h52 ⟨r51, rfl, hS, H⟩
                  have hB := hB.same hS
                  have hE := Ev.refl [p1] h52
                  refine JO.p 3 [(66, .agg #[.int .i64 1, .int .i64 r51, .string (ba ([] : Str)), sl (⟨none, 0, 0⟩ : Sl)])] ?_
                  refine JO.s 3 (OpOk.st [.int .i64 1, .int .i64 r51, .string (ba ([] : Str)), sl (⟨none, 0, 0⟩ : Sl)] (KeepB.st hB 0 0 4) ?_)
                  intro h53 hh
                  have hE := hE.set hh (by simp [add_block])
                  have hB : KeepB [(p1, .cells #[.int .i64 1, .int .i64 r51, .string (ba ([] : Str)), sl (⟨none, 0, 0⟩ : Sl)] 24 (0, 0))] h53 := hB.set 0 rfl (off := 0) rfl hh
                  refine JO.end_ (JC.next (JC.ret ?_))
                  have H := H h53 hE
                  have hE := Ev.refl [p1] h53
                  exact JK.retG1 (.agg #[.int .i64 1, .int .i64 r51, .string (ba ([] : Str)), sl (⟨none, 0, 0⟩ : Sl)]) rfl (RVal.bN p1 24 hB 0) ⟨(⟨1, r51, ([] : Str), (⟨none, 0, 0⟩ : Sl)⟩ : V_api_Term), by kernel_rfl, H⟩

def F_term_parts.body (t : V_api_Term) (h : Hp) (K : Value → Hp → Prop) (X : Chain → Hp → Prop) : Prop :=
AllocW h 24 [.int .i64 t.Kind, .int .i64 t.N, .string (ba t.S), sl t.L] (fun (p1 : Nat) (h2 : Hp) => K (Value.func (.func 115) #[] #[.pointer (some ⟨p1, 0, none⟩)]) h2)
theorem F_term_parts.sound {t : V_api_Term} {h : Hp} {K : Value → Hp → Prop} {X : Chain → Hp → Prop} (H : F_term_parts.body t h K X) : F_term_parts.call t h K X := by
  unfold F_term_parts.body at H
  refine CallH.of Tryz.func69 rfl rfl fun w0 hw0 => ?_
  refine JC.seq (JC.region ?_)
  refine JO.s 0 (OpOk.bp [.int .i64 t.Kind, .int .i64 t.N, .string (ba t.S), sl t.L] 24 ?_)
  intro p1 h2 hp hh
  have H := H p1 h2 hp hh
  refine JO.p 2 [(2, Value.nilFunc)] ?_
  refine JO.end_ (JC.next (JC.seq (JC.region ?_)))
  refine JO.p 2 [(2, (Value.func (.func 115) #[] #[.pointer (some ⟨p1, 0, none⟩)]))] ?_
  refine JO.end_ (JC.next (JC.ret ?_))
  exact JK.retG1 (Value.func (.func 115) #[] #[.pointer (some ⟨p1, 0, none⟩)]) rfl RVal.s ⟨Value.func (.func 115) #[] #[.pointer (some ⟨p1, 0, none⟩)], by kernel_rfl, H⟩

end Go.Proofs.YtefbonjcpdjhcaaGreatDoor.X
