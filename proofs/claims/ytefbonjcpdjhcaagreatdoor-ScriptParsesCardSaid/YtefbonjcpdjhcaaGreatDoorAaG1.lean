/- A part of the proof: The card of ScriptParses: for every line that the form allows, the law returns true and leaves its argument as it was; the listed package-level variables of Go's library hold what their initialisers lay. -/
import Derived.Test.YtefbonjcpdjhcaaGreatDoorAaG0
/- Normal forms of functions, and that they imply the calls. Printed by a program of ours. -/
set_option linter.unusedVariables false
set_option maxRecDepth 100000
namespace Go.Proofs.YtefbonjcpdjhcaaGreatDoor.X
open Go Go.RowKit

def F_term_sound.body (t : V_api_Term) (h : Hp) (K : Bool → Hp → Prop) (X : Chain → Hp → Prop) : Prop :=
∀ (x3 : Int), x3 = (t.L.len : Int) → ((t.Kind == 1) = true → ∀ (p1 : Nat) (h2 : Hp), New p1 h h2 → Ev [p1] h h2 → K ((((decide (t.N ≥ (-576460752303423488))) && (decide (t.N ≤ 576460752303423487))) && (cmpS .eql t.S ([] : Str))) && (x3 == 0)) h2) ∧
((t.Kind == 1) = false → ((t.Kind == 2) = true → ∀ (p1 : Nat) (h2 : Hp), New p1 h h2 → Ev [p1] h h2 → K (((t.N == 0) && (decide ((t.S.length : Int) ≤ 64))) && (x3 == 0)) h2) ∧
((t.Kind == 2) = false → ∀ (p1 : Nat) (h2 : Hp), New p1 h h2 → Ev [p1] h h2 → JoinW (fun (k9 : Bool → Hp → Prop) =>
((t.Kind == 3) = true → k9 (t.Kind == 3) h2) ∧
((t.Kind == 3) = false → ((t.Kind == 4) = true → k9 (t.Kind == 4) h2) ∧
((t.Kind == 4) = false → ((t.Kind == 6) = true → k9 (t.Kind == 6) h2) ∧
((t.Kind == 6) = false → k9 (t.Kind == 5) h2)))) (fun (s10 : Bool) h11 =>
(s10 = true → K ((((decide (t.N ≥ 0)) && (decide (t.N ≤ 1073741824))) && (cmpS .eql t.S ([] : Str))) && ((x3 == 0) || ((t.Kind == 5) && (decide (x3 ≤ 64))))) h11) ∧
(s10 = false → ((t.Kind == 7) = true → K (((t.N == 0) && (cmpS .eql t.S ([] : Str))) && (decide (x3 ≤ 64))) h11) ∧
((t.Kind == 7) = false → ((t.Kind == 8) = true → K (((t.N == 0) && (cmpS .eql t.S ([] : Str))) && (x3 == 0)) h11) ∧
((t.Kind == 8) = false → ((t.Kind == 9) = true → K (((t.N == 0) && (cmpS .eql t.S ([] : Str))) && (x3 == 2)) h11) ∧
((t.Kind == 9) = false → K false h11)))))))
theorem F_term_sound.sound {t : V_api_Term} {h : Hp} {K : Bool → Hp → Prop} {X : Chain → Hp → Prop} (H : F_term_sound.body t h K X) : F_term_sound.call t h K X := by
  unfold F_term_sound.body at H
  refine CallH.of Tryz.func70 rfl rfl fun w0 hw0 => ?_
  refine JC.seq (JC.region ?_)
  refine JO.s 0 (OpOk.bp [.int .i64 t.Kind, .int .i64 t.N, .string (ba t.S), sl t.L] 24 ?_)
  intro p1 h2 hp hh
  have hE := Ev.refl [] h
  have hB := KeepB.nil h
  have hNp1 : Array.size h ≤ p1 := hp ▸ hE.size
  have hB : KeepB [(p1, .cells #[.int .i64 t.Kind, .int .i64 t.N, .string (ba t.S), sl t.L] 24 (0, 0))] h2 := hB.push hp hh
  have hE := hE.push hp hh
  refine JO.p 2 [(2, .bool false)] ?_
  refine JO.end_ (JC.next (JC.seq (JC.region ?_)))
  refine JO.p 1 [(4, .pointer (some ((⟨p1, 0, none⟩ : Addr).add 3)))] ?_
  refine JO.y 1 (Yld.le (KeepB.c hB 0 3 [sl t.L])) ?_
  refine JO.p 3 [(6, .int .i64 (t.L.len : Int))] ?_
  let x3 : Int := (t.L.len : Int)
  have H := H x3 rfl
  refine JO.p 4 [(3, .int .i64 x3)] ?_
  refine JO.end_ (JC.next (JC.seq (JC.seq (JC.region ?_))))
  refine JO.p 1 [(7, .pointer (some ((⟨p1, 0, none⟩ : Addr).add 0)))] ?_
  refine JO.y 1 (Yld.le (KeepB.c hB 0 0 [.int .i64 t.Kind])) ?_
  refine JO.end_ (JC.next (JC.block (JC.seq (JC.region ?_))))
  refine JO.p 2 [(9, .bool (t.Kind == 1))] ?_
  refine JO.end_ (JC.next ?_)
  refine JC.cd (t.Kind == 1) (fun hb => ?_) (fun hb => ?_)
  · have H := H.1 (hb)
    refine JC.seq (JC.region ?_)
    refine JO.p 1 [(11, .pointer (some ((⟨p1, 0, none⟩ : Addr).add 1)))] ?_
    refine JO.y 1 (Yld.le (KeepB.c hB 0 1 [.int .i64 t.N])) ?_
    refine JO.p 4 [(14, .bool (decide (t.N ≥ (-576460752303423488))))] ?_
    refine JO.jq 8 [(1, .pointer (some ⟨p1, 0, none⟩)), (3, .int .i64 x3), (18, .bool ((decide (t.N ≥ (-576460752303423488))) && (decide (t.N ≤ 576460752303423487))))] ?_ ?_
    · refine JO.cs 14 (decide (t.N ≥ (-576460752303423488))) (fun hc4 => ?_) (fun hc4 => ?_)
      · refine JO.p 5 [(15, .pointer (some ((⟨p1, 0, none⟩ : Addr).add 1)))] ?_
        refine JO.y 5 (Yld.le (KeepB.c hB 0 1 [.int .i64 t.N])) ?_
        refine JO.p 8 [(18, .bool (decide (t.N ≤ 576460752303423487)))] ?_
        refine JO.end_ ?_
        exact JK.invQ (Sub.of (by (try rw [hc4]); first | done | kernel_rfl))
      · refine JO.p 8 [(18, .bool false)] ?_
        refine JO.end_ ?_
        exact JK.invQ (Sub.of (by (try rw [hc4]); first | done | kernel_rfl))
    refine JO.p 9 [(19, .bool ((decide (t.N ≥ (-576460752303423488))) && (decide (t.N ≤ 576460752303423487))))] ?_
    refine JO.jq 13 [(3, .int .i64 x3), (23, .bool (((decide (t.N ≥ (-576460752303423488))) && (decide (t.N ≤ 576460752303423487))) && (cmpS .eql t.S ([] : Str))))] ?_ ?_
    · refine JO.cs 19 ((decide (t.N ≥ (-576460752303423488))) && (decide (t.N ≤ 576460752303423487))) (fun hc5 => ?_) (fun hc5 => ?_)
      · refine JO.p 10 [(20, .pointer (some ((⟨p1, 0, none⟩ : Addr).add 2)))] ?_
        refine JO.y 10 (Yld.le (KeepB.c hB 0 2 [.string (ba t.S)])) ?_
        refine JO.y 11 (Yld.cp .eql t.S ([] : Str)) ?_
        refine JO.p 13 [(23, .bool (cmpS .eql t.S ([] : Str)))] ?_
        refine JO.end_ ?_
        exact JK.invQ (Sub.of (by (try rw [hc5]); first | done | kernel_rfl))
      · refine JO.p 13 [(23, .bool false)] ?_
        refine JO.end_ ?_
        exact JK.invQ (Sub.of (by (try rw [hc5]); first | done | kernel_rfl))
    refine JO.p 14 [(24, .bool (((decide (t.N ≥ (-576460752303423488))) && (decide (t.N ≤ 576460752303423487))) && (cmpS .eql t.S ([] : Str))))] ?_
    refine JO.jq 17 [(27, .bool ((((decide (t.N ≥ (-576460752303423488))) && (decide (t.N ≤ 576460752303423487))) && (cmpS .eql t.S ([] : Str))) && (x3 == 0)))] ?_ ?_
    · refine JO.cs 24 (((decide (t.N ≥ (-576460752303423488))) && (decide (t.N ≤ 576460752303423487))) && (cmpS .eql t.S ([] : Str))) (fun hc6 => ?_) (fun hc6 => ?_)
      · refine JO.p 17 [(27, .bool (x3 == 0))] ?_
        refine JO.end_ ?_
        exact JK.invQ (Sub.of (by (try rw [hc6]); first | done | kernel_rfl))
      · refine JO.p 17 [(27, .bool false)] ?_
        refine JO.end_ ?_
        exact JK.invQ (Sub.of (by (try rw [hc6]); first | done | kernel_rfl))
    refine JO.p 18 [(2, .bool ((((decide (t.N ≥ (-576460752303423488))) && (decide (t.N ≤ 576460752303423487))) && (cmpS .eql t.S ([] : Str))) && (x3 == 0)))] ?_
    refine JO.end_ (JC.next (JC.ret ?_))
    have H := H p1 h2 ⟨hNp1, hB.l 0⟩ hE
    have hE := Ev.refl [p1] h2
    exact JK.retG1 (.bool ((((decide (t.N ≥ (-576460752303423488))) && (decide (t.N ≤ 576460752303423487))) && (cmpS .eql t.S ([] : Str))) && (x3 == 0))) rfl RVal.s ⟨(((decide (t.N ≥ (-576460752303423488))) && (decide (t.N ≤ 576460752303423487))) && (cmpS .eql t.S ([] : Str))) && (x3 == 0), by kernel_rfl, H⟩
  · have H := H.2 (hb)
    refine JC.seq (JC.region ?_)
    refine JO.p 2 [(28, .bool (t.Kind == 2))] ?_
    refine JO.end_ (JC.next ?_)
    refine JC.cd (t.Kind == 2) (fun hb => ?_) (fun hb => ?_)
    · have H := H.1 (hb)
      refine JC.seq (JC.region ?_)
      refine JO.p 1 [(30, .pointer (some ((⟨p1, 0, none⟩ : Addr).add 1)))] ?_
      refine JO.y 1 (Yld.le (KeepB.c hB 0 1 [.int .i64 t.N])) ?_
      refine JO.p 4 [(33, .bool (t.N == 0))] ?_
      refine JO.jq 9 [(3, .int .i64 x3), (38, .bool ((t.N == 0) && (decide ((t.S.length : Int) ≤ 64))))] ?_ ?_
      · refine JO.cs 33 (t.N == 0) (fun hc7 => ?_) (fun hc7 => ?_)
        · refine JO.p 5 [(34, .pointer (some ((⟨p1, 0, none⟩ : Addr).add 2)))] ?_
          refine JO.y 5 (Yld.le (KeepB.c hB 0 2 [.string (ba t.S)])) ?_
          refine JO.p 9 [(38, .bool (decide ((t.S.length : Int) ≤ 64)))] ?_
          refine JO.end_ ?_
          exact JK.invQ (Sub.of (by (try rw [hc7]); first | done | kernel_rfl))
        · refine JO.p 9 [(38, .bool false)] ?_
          refine JO.end_ ?_
          exact JK.invQ (Sub.of (by (try rw [hc7]); first | done | kernel_rfl))
      refine JO.p 10 [(39, .bool ((t.N == 0) && (decide ((t.S.length : Int) ≤ 64))))] ?_
      refine JO.jq 13 [(42, .bool (((t.N == 0) && (decide ((t.S.length : Int) ≤ 64))) && (x3 == 0)))] ?_ ?_
      · refine JO.cs 39 ((t.N == 0) && (decide ((t.S.length : Int) ≤ 64))) (fun hc8 => ?_) (fun hc8 => ?_)
        · refine JO.p 13 [(42, .bool (x3 == 0))] ?_
          refine JO.end_ ?_
          exact JK.invQ (Sub.of (by (try rw [hc8]); first | done | kernel_rfl))
        · refine JO.p 13 [(42, .bool false)] ?_
          refine JO.end_ ?_
          exact JK.invQ (Sub.of (by (try rw [hc8]); first | done | kernel_rfl))
      refine JO.p 14 [(2, .bool (((t.N == 0) && (decide ((t.S.length : Int) ≤ 64))) && (x3 == 0)))] ?_
      refine JO.end_ (JC.next (JC.ret ?_))
      have H := H p1 h2 ⟨hNp1, hB.l 0⟩ hE
      have hE := Ev.refl [p1] h2
      exact JK.retG1 (.bool (((t.N == 0) && (decide ((t.S.length : Int) ≤ 64))) && (x3 == 0))) rfl RVal.s ⟨((t.N == 0) && (decide ((t.S.length : Int) ≤ 64))) && (x3 == 0), by kernel_rfl, H⟩
    · have H := H.2 (hb)
      have H := H p1 h2 ⟨hNp1, hB.l 0⟩ hE
      have hE := Ev.refl [p1] h2
      obtain ⟨k9, H, Hk9⟩ := H
      refine JC.join (S := Bool) (fun s10 => [(1, .pointer (some ⟨p1, 0, none⟩)), (3, .int .i64 x3), (8, .int .i64 t.Kind), (43, .bool s10)]) (fun s10 h' => KeepB [(p1, .cells #[.int .i64 t.Kind, .int .i64 t.N, .string (ba t.S), sl t.L] 24 (0, 0))] h' ∧ k9 s10 h') ?_ ?_
      · refine JC.seq (JC.region ?_)
        refine JO.p 2 [(43, .bool (t.Kind == 3))] ?_
        refine JO.end_ (JC.next ?_)
        refine JC.cd (t.Kind == 3) (fun hb => ?_) (fun hb => ?_)
        · have H := H.1 (hb)
          refine JC.skip ?_
          exact JK.inv (t.Kind == 3) Sub.kk ⟨hB, H⟩
        · have H := H.2 (hb)
          refine JC.seq (JC.region ?_)
          refine JO.p 2 [(43, .bool (t.Kind == 4))] ?_
          refine JO.end_ (JC.next ?_)
          refine JC.cd (t.Kind == 4) (fun hb => ?_) (fun hb => ?_)
          · have H := H.1 (hb)
            refine JC.skip ?_
            exact JK.inv (t.Kind == 4) Sub.kk ⟨hB, H⟩
          · have H := H.2 (hb)
            refine JC.seq (JC.region ?_)
            refine JO.p 2 [(43, .bool (t.Kind == 6))] ?_
            refine JO.end_ (JC.next ?_)
            refine JC.cd (t.Kind == 6) (fun hb => ?_) (fun hb => ?_)
            · have H := H.1 (hb)
              refine JC.skip ?_
              exact JK.inv (t.Kind == 6) Sub.kk ⟨hB, H⟩
            · have H := H.2 (hb)
              refine JC.region ?_
              refine JO.p 2 [(43, .bool (t.Kind == 5))] ?_
              refine JO.end_ ?_
              exact JK.inv (t.Kind == 5) Sub.kk ⟨hB, H⟩
      · rintro s10 h11 ⟨hB, hk⟩
        have H := Hk9 s10 h11 hk
        have hE := Ev.refl [p1] h11
        refine JC.cd s10 (fun hb => ?_) (fun hb => ?_)
        · have H := H.1 (hb)
          refine JC.seq (JC.region ?_)
          refine JO.p 1 [(48, .pointer (some ((⟨p1, 0, none⟩ : Addr).add 1)))] ?_
          refine JO.y 1 (Yld.le (KeepB.c hB 0 1 [.int .i64 t.N])) ?_
          refine JO.p 4 [(51, .bool (decide (t.N ≥ 0)))] ?_
          refine JO.jq 8 [(1, .pointer (some ⟨p1, 0, none⟩)), (3, .int .i64 x3), (55, .bool ((decide (t.N ≥ 0)) && (decide (t.N ≤ 1073741824))))] ?_ ?_
          · refine JO.cs 51 (decide (t.N ≥ 0)) (fun hc12 => ?_) (fun hc12 => ?_)
            · refine JO.p 5 [(52, .pointer (some ((⟨p1, 0, none⟩ : Addr).add 1)))] ?_
              refine JO.y 5 (Yld.le (KeepB.c hB 0 1 [.int .i64 t.N])) ?_
              refine JO.p 8 [(55, .bool (decide (t.N ≤ 1073741824)))] ?_
              refine JO.end_ ?_
              exact JK.invQ (Sub.of (by (try rw [hc12]); first | done | kernel_rfl))
            · refine JO.p 8 [(55, .bool false)] ?_
              refine JO.end_ ?_
              exact JK.invQ (Sub.of (by (try rw [hc12]); first | done | kernel_rfl))
          refine JO.p 9 [(56, .bool ((decide (t.N ≥ 0)) && (decide (t.N ≤ 1073741824))))] ?_
          refine JO.jq 13 [(1, .pointer (some ⟨p1, 0, none⟩)), (3, .int .i64 x3), (60, .bool (((decide (t.N ≥ 0)) && (decide (t.N ≤ 1073741824))) && (cmpS .eql t.S ([] : Str))))] ?_ ?_
          · refine JO.cs 56 ((decide (t.N ≥ 0)) && (decide (t.N ≤ 1073741824))) (fun hc13 => ?_) (fun hc13 => ?_)
            · refine JO.p 10 [(57, .pointer (some ((⟨p1, 0, none⟩ : Addr).add 2)))] ?_
              refine JO.y 10 (Yld.le (KeepB.c hB 0 2 [.string (ba t.S)])) ?_
              refine JO.y 11 (Yld.cp .eql t.S ([] : Str)) ?_
              refine JO.p 13 [(60, .bool (cmpS .eql t.S ([] : Str)))] ?_
              refine JO.end_ ?_
              exact JK.invQ (Sub.of (by (try rw [hc13]); first | done | kernel_rfl))
            · refine JO.p 13 [(60, .bool false)] ?_
              refine JO.end_ ?_
              exact JK.invQ (Sub.of (by (try rw [hc13]); first | done | kernel_rfl))
          refine JO.p 14 [(61, .bool (((decide (t.N ≥ 0)) && (decide (t.N ≤ 1073741824))) && (cmpS .eql t.S ([] : Str))))] ?_
          refine JO.jq 26 [(73, .bool ((((decide (t.N ≥ 0)) && (decide (t.N ≤ 1073741824))) && (cmpS .eql t.S ([] : Str))) && ((x3 == 0) || ((t.Kind == 5) && (decide (x3 ≤ 64))))))] ?_ ?_
          · refine JO.cs 61 (((decide (t.N ≥ 0)) && (decide (t.N ≤ 1073741824))) && (cmpS .eql t.S ([] : Str))) (fun hc14 => ?_) (fun hc14 => ?_)
            · refine JO.p 17 [(64, .bool (x3 == 0))] ?_
              refine JO.jq 25 [(61, .bool true), (72, .bool ((x3 == 0) || ((t.Kind == 5) && (decide (x3 ≤ 64)))))] ?_ ?_
              · refine JO.cs 64 (x3 == 0) (fun hc15 => ?_) (fun hc15 => ?_)
                · refine JO.p 25 [(72, .bool true)] ?_
                  refine JO.end_ ?_
                  exact JK.invQ (Sub.of (by (try rw [hc14]); (try rw [hc15]); first | done | kernel_rfl))
                · refine JO.p 18 [(65, .pointer (some ((⟨p1, 0, none⟩ : Addr).add 0)))] ?_
                  refine JO.y 18 (Yld.le (KeepB.c hB 0 0 [.int .i64 t.Kind])) ?_
                  refine JO.p 21 [(68, .bool (t.Kind == 5))] ?_
                  refine JO.jq 24 [(61, .bool true), (64, .bool false), (71, .bool ((t.Kind == 5) && (decide (x3 ≤ 64))))] ?_ ?_
                  · refine JO.cs 68 (t.Kind == 5) (fun hc16 => ?_) (fun hc16 => ?_)
                    · refine JO.p 24 [(71, .bool (decide (x3 ≤ 64)))] ?_
                      refine JO.end_ ?_
                      exact JK.invQ (Sub.of (by (try rw [hc14]); (try rw [hc15]); (try rw [hc16]); first | done | kernel_rfl))
                    · refine JO.p 24 [(71, .bool false)] ?_
                      refine JO.end_ ?_
                      exact JK.invQ (Sub.of (by (try rw [hc14]); (try rw [hc15]); (try rw [hc16]); first | done | kernel_rfl))
                  refine JO.p 25 [(72, .bool ((t.Kind == 5) && (decide (x3 ≤ 64))))] ?_
                  refine JO.end_ ?_
                  exact JK.invQ (Sub.of (by (try rw [hc14]); (try rw [hc15]); first | done | kernel_rfl))
              refine JO.p 26 [(73, .bool ((x3 == 0) || ((t.Kind == 5) && (decide (x3 ≤ 64)))))] ?_
              refine JO.end_ ?_
              exact JK.invQ (Sub.of (by (try rw [hc14]); first | done | kernel_rfl))
            · refine JO.p 26 [(73, .bool false)] ?_
              refine JO.end_ ?_
              exact JK.invQ (Sub.of (by (try rw [hc14]); first | done | kernel_rfl))
          refine JO.p 27 [(2, .bool ((((decide (t.N ≥ 0)) && (decide (t.N ≤ 1073741824))) && (cmpS .eql t.S ([] : Str))) && ((x3 == 0) || ((t.Kind == 5) && (decide (x3 ≤ 64))))))] ?_
          refine JO.end_ (JC.next (JC.ret ?_))
          exact JK.retG1 (.bool ((((decide (t.N ≥ 0)) && (decide (t.N ≤ 1073741824))) && (cmpS .eql t.S ([] : Str))) && ((x3 == 0) || ((t.Kind == 5) && (decide (x3 ≤ 64)))))) rfl RVal.s ⟨(((decide (t.N ≥ 0)) && (decide (t.N ≤ 1073741824))) && (cmpS .eql t.S ([] : Str))) && ((x3 == 0) || ((t.Kind == 5) && (decide (x3 ≤ 64)))), by kernel_rfl, H⟩
        · have H := H.2 (hb)
          refine JC.seq (JC.region ?_)
          refine JO.p 2 [(74, .bool (t.Kind == 7))] ?_
          refine JO.end_ (JC.next ?_)
          refine JC.cd (t.Kind == 7) (fun hb => ?_) (fun hb => ?_)
          · have H := H.1 (hb)
            refine JC.seq (JC.region ?_)
            refine JO.p 1 [(76, .pointer (some ((⟨p1, 0, none⟩ : Addr).add 1)))] ?_
            refine JO.y 1 (Yld.le (KeepB.c hB 0 1 [.int .i64 t.N])) ?_
            refine JO.p 4 [(79, .bool (t.N == 0))] ?_
            refine JO.jq 8 [(3, .int .i64 x3), (83, .bool ((t.N == 0) && (cmpS .eql t.S ([] : Str))))] ?_ ?_
            · refine JO.cs 79 (t.N == 0) (fun hc17 => ?_) (fun hc17 => ?_)
              · refine JO.p 5 [(80, .pointer (some ((⟨p1, 0, none⟩ : Addr).add 2)))] ?_
                refine JO.y 5 (Yld.le (KeepB.c hB 0 2 [.string (ba t.S)])) ?_
                refine JO.y 6 (Yld.cp .eql t.S ([] : Str)) ?_
                refine JO.p 8 [(83, .bool (cmpS .eql t.S ([] : Str)))] ?_
                refine JO.end_ ?_
                exact JK.invQ (Sub.of (by (try rw [hc17]); first | done | kernel_rfl))
              · refine JO.p 8 [(83, .bool false)] ?_
                refine JO.end_ ?_
                exact JK.invQ (Sub.of (by (try rw [hc17]); first | done | kernel_rfl))
            refine JO.p 9 [(84, .bool ((t.N == 0) && (cmpS .eql t.S ([] : Str))))] ?_
            refine JO.jq 12 [(87, .bool (((t.N == 0) && (cmpS .eql t.S ([] : Str))) && (decide (x3 ≤ 64))))] ?_ ?_
            · refine JO.cs 84 ((t.N == 0) && (cmpS .eql t.S ([] : Str))) (fun hc18 => ?_) (fun hc18 => ?_)
              · refine JO.p 12 [(87, .bool (decide (x3 ≤ 64)))] ?_
                refine JO.end_ ?_
                exact JK.invQ (Sub.of (by (try rw [hc18]); first | done | kernel_rfl))
              · refine JO.p 12 [(87, .bool false)] ?_
                refine JO.end_ ?_
                exact JK.invQ (Sub.of (by (try rw [hc18]); first | done | kernel_rfl))
            refine JO.p 13 [(2, .bool (((t.N == 0) && (cmpS .eql t.S ([] : Str))) && (decide (x3 ≤ 64))))] ?_
            refine JO.end_ (JC.next (JC.ret ?_))
            exact JK.retG1 (.bool (((t.N == 0) && (cmpS .eql t.S ([] : Str))) && (decide (x3 ≤ 64)))) rfl RVal.s ⟨((t.N == 0) && (cmpS .eql t.S ([] : Str))) && (decide (x3 ≤ 64)), by kernel_rfl, H⟩
          · have H := H.2 (hb)
            refine JC.seq (JC.region ?_)
            refine JO.p 2 [(88, .bool (t.Kind == 8))] ?_
            refine JO.end_ (JC.next ?_)
            refine JC.cd (t.Kind == 8) (fun hb => ?_) (fun hb => ?_)
            · have H := H.1 (hb)
              refine JC.seq (JC.region ?_)
              refine JO.p 1 [(90, .pointer (some ((⟨p1, 0, none⟩ : Addr).add 1)))] ?_
              refine JO.y 1 (Yld.le (KeepB.c hB 0 1 [.int .i64 t.N])) ?_
              refine JO.p 4 [(93, .bool (t.N == 0))] ?_
              refine JO.jq 8 [(3, .int .i64 x3), (97, .bool ((t.N == 0) && (cmpS .eql t.S ([] : Str))))] ?_ ?_
              · refine JO.cs 93 (t.N == 0) (fun hc19 => ?_) (fun hc19 => ?_)
                · refine JO.p 5 [(94, .pointer (some ((⟨p1, 0, none⟩ : Addr).add 2)))] ?_
                  refine JO.y 5 (Yld.le (KeepB.c hB 0 2 [.string (ba t.S)])) ?_
                  refine JO.y 6 (Yld.cp .eql t.S ([] : Str)) ?_
                  refine JO.p 8 [(97, .bool (cmpS .eql t.S ([] : Str)))] ?_
                  refine JO.end_ ?_
                  exact JK.invQ (Sub.of (by (try rw [hc19]); first | done | kernel_rfl))
                · refine JO.p 8 [(97, .bool false)] ?_
                  refine JO.end_ ?_
                  exact JK.invQ (Sub.of (by (try rw [hc19]); first | done | kernel_rfl))
              refine JO.p 9 [(98, .bool ((t.N == 0) && (cmpS .eql t.S ([] : Str))))] ?_
              refine JO.jq 12 [(101, .bool (((t.N == 0) && (cmpS .eql t.S ([] : Str))) && (x3 == 0)))] ?_ ?_
              · refine JO.cs 98 ((t.N == 0) && (cmpS .eql t.S ([] : Str))) (fun hc20 => ?_) (fun hc20 => ?_)
                · refine JO.p 12 [(101, .bool (x3 == 0))] ?_
                  refine JO.end_ ?_
                  exact JK.invQ (Sub.of (by (try rw [hc20]); first | done | kernel_rfl))
                · refine JO.p 12 [(101, .bool false)] ?_
                  refine JO.end_ ?_
                  exact JK.invQ (Sub.of (by (try rw [hc20]); first | done | kernel_rfl))
              refine JO.p 13 [(2, .bool (((t.N == 0) && (cmpS .eql t.S ([] : Str))) && (x3 == 0)))] ?_
              refine JO.end_ (JC.next (JC.ret ?_))
              exact JK.retG1 (.bool (((t.N == 0) && (cmpS .eql t.S ([] : Str))) && (x3 == 0))) rfl RVal.s ⟨((t.N == 0) && (cmpS .eql t.S ([] : Str))) && (x3 == 0), by kernel_rfl, H⟩
            · have H := H.2 (hb)
              refine JC.seq (JC.region ?_)
              refine JO.p 2 [(102, .bool (t.Kind == 9))] ?_
              refine JO.end_ (JC.next ?_)
              refine JC.cd (t.Kind == 9) (fun hb => ?_) (fun hb => ?_)
              · have H := H.1 (hb)
                refine JC.seq (JC.region ?_)
                refine JO.p 1 [(104, .pointer (some ((⟨p1, 0, none⟩ : Addr).add 1)))] ?_
                refine JO.y 1 (Yld.le (KeepB.c hB 0 1 [.int .i64 t.N])) ?_
                refine JO.p 4 [(107, .bool (t.N == 0))] ?_
                refine JO.jq 8 [(3, .int .i64 x3), (111, .bool ((t.N == 0) && (cmpS .eql t.S ([] : Str))))] ?_ ?_
                · refine JO.cs 107 (t.N == 0) (fun hc21 => ?_) (fun hc21 => ?_)
                  · refine JO.p 5 [(108, .pointer (some ((⟨p1, 0, none⟩ : Addr).add 2)))] ?_
                    refine JO.y 5 (Yld.le (KeepB.c hB 0 2 [.string (ba t.S)])) ?_
                    refine JO.y 6 (Yld.cp .eql t.S ([] : Str)) ?_
                    refine JO.p 8 [(111, .bool (cmpS .eql t.S ([] : Str)))] ?_
                    refine JO.end_ ?_
                    exact JK.invQ (Sub.of (by (try rw [hc21]); first | done | kernel_rfl))
                  · refine JO.p 8 [(111, .bool false)] ?_
                    refine JO.end_ ?_
                    exact JK.invQ (Sub.of (by (try rw [hc21]); first | done | kernel_rfl))
                refine JO.p 9 [(112, .bool ((t.N == 0) && (cmpS .eql t.S ([] : Str))))] ?_
                refine JO.jq 12 [(115, .bool (((t.N == 0) && (cmpS .eql t.S ([] : Str))) && (x3 == 2)))] ?_ ?_
                · refine JO.cs 112 ((t.N == 0) && (cmpS .eql t.S ([] : Str))) (fun hc22 => ?_) (fun hc22 => ?_)
                  · refine JO.p 12 [(115, .bool (x3 == 2))] ?_
                    refine JO.end_ ?_
                    exact JK.invQ (Sub.of (by (try rw [hc22]); first | done | kernel_rfl))
                  · refine JO.p 12 [(115, .bool false)] ?_
                    refine JO.end_ ?_
                    exact JK.invQ (Sub.of (by (try rw [hc22]); first | done | kernel_rfl))
                refine JO.p 13 [(2, .bool (((t.N == 0) && (cmpS .eql t.S ([] : Str))) && (x3 == 2)))] ?_
                refine JO.end_ (JC.next (JC.ret ?_))
                exact JK.retG1 (.bool (((t.N == 0) && (cmpS .eql t.S ([] : Str))) && (x3 == 2))) rfl RVal.s ⟨((t.N == 0) && (cmpS .eql t.S ([] : Str))) && (x3 == 2), by kernel_rfl, H⟩
              · have H := H.2 (hb)
                refine JC.skip (JC.next (JC.seq (JC.region ?_)))
                refine JO.p 1 [(2, .bool false)] ?_
                refine JO.end_ (JC.next (JC.ret ?_))
                exact JK.retG1 (.bool false) rfl RVal.s ⟨false, by kernel_rfl, H⟩

def F_term_own.body (t : V_api_Term) (h : Hp) (K : Int → Hp → Prop) (X : Chain → Hp → Prop) : Prop :=
(((t.Kind == 7) || (t.Kind == 5)) = true → ∀ (p1 : Nat) (h2 : Hp), New p1 h h2 → Ev [p1] h h2 → K 2 h2) ∧
(((t.Kind == 7) || (t.Kind == 5)) = false → ∀ (p1 : Nat) (h2 : Hp), New p1 h h2 → Ev [p1] h h2 → K 1 h2)
theorem F_term_own.sound {t : V_api_Term} {h : Hp} {K : Int → Hp → Prop} {X : Chain → Hp → Prop} (H : F_term_own.body t h K X) : F_term_own.call t h K X := by
  unfold F_term_own.body at H
  refine CallH.of Tryz.func71 rfl rfl fun w0 hw0 => ?_
  refine JC.seq (JC.region ?_)
  refine JO.s 0 (OpOk.bp [.int .i64 t.Kind, .int .i64 t.N, .string (ba t.S), sl t.L] 24 ?_)
  intro p1 h2 hp hh
  have hE := Ev.refl [] h
  have hB := KeepB.nil h
  have hNp1 : Array.size h ≤ p1 := hp ▸ hE.size
  have hB : KeepB [(p1, .cells #[.int .i64 t.Kind, .int .i64 t.N, .string (ba t.S), sl t.L] 24 (0, 0))] h2 := hB.push hp hh
  have hE := hE.push hp hh
  refine JO.p 2 [(2, .int .i64 0)] ?_
  refine JO.end_ (JC.next (JC.seq (JC.seq (JC.region ?_))))
  refine JO.p 1 [(3, .pointer (some ((⟨p1, 0, none⟩ : Addr).add 0)))] ?_
  refine JO.y 1 (Yld.le (KeepB.c hB 0 0 [.int .i64 t.Kind])) ?_
  refine JO.p 4 [(6, .bool (t.Kind == 7))] ?_
  refine JO.jq 8 [(10, .bool ((t.Kind == 7) || (t.Kind == 5)))] ?_ ?_
  · refine JO.cs 6 (t.Kind == 7) (fun hc3 => ?_) (fun hc3 => ?_)
    · refine JO.p 8 [(10, .bool true)] ?_
      refine JO.end_ ?_
      exact JK.invQ (Sub.of (by (try rw [hc3]); first | done | kernel_rfl))
    · refine JO.p 5 [(7, .pointer (some ((⟨p1, 0, none⟩ : Addr).add 0)))] ?_
      refine JO.y 5 (Yld.le (KeepB.c hB 0 0 [.int .i64 t.Kind])) ?_
      refine JO.p 8 [(10, .bool (t.Kind == 5))] ?_
      refine JO.end_ ?_
      exact JK.invQ (Sub.of (by (try rw [hc3]); first | done | kernel_rfl))
  refine JO.end_ (JC.next ?_)
  refine JC.cd ((t.Kind == 7) || (t.Kind == 5)) (fun hb => ?_) (fun hb => ?_)
  · have H := H.1 (hb)
    refine JC.seq (JC.region ?_)
    refine JO.p 1 [(2, .int .i64 2)] ?_
    refine JO.end_ (JC.next (JC.ret ?_))
    have H := H p1 h2 ⟨hNp1, hB.l 0⟩ hE
    have hE := Ev.refl [p1] h2
    exact JK.retG1 (.int .i64 2) rfl RVal.s ⟨2, by kernel_rfl, H⟩
  · have H := H.2 (hb)
    refine JC.skip (JC.next (JC.seq (JC.region ?_)))
    refine JO.p 1 [(2, .int .i64 1)] ?_
    refine JO.end_ (JC.next (JC.ret ?_))
    have H := H p1 h2 ⟨hNp1, hB.l 0⟩ hE
    have hE := Ev.refl [p1] h2
    exact JK.retG1 (.int .i64 1) rfl RVal.s ⟨1, by kernel_rfl, H⟩

def F_tenureref05_reader_next.body (r : Option Addr) (h : Hp) (K : Int → Hp → Prop) (X : Chain → Hp → Prop) : Prop :=
NilW r (fun (a1 : Addr) => LoadW h (a1.add 2) cB (fun (x2 : Bool) => LoadG (x2 = false) h (a1.add 1) (cI .i64) (fun (x3 : Int) => LoadG (x2 = false) h (a1.add 0) cS (fun (x4 : Str) => ((x2 || (decide (x3 ≥ (x4.length : Int)))) = true → K 0 h) ∧
((x2 || (decide (x3 ≥ (x4.length : Int)))) = false → LoadW h (a1.add 0) cS (fun (x6 : Str) => LoadW h (a1.add 1) (cI .i64) (fun (x7 : Int) => (0 ≤ x7 ∧ x7 < x6.length) ∧ ∀ (x9 : Int), x9 = bt x6 x7 → K x9 h)))))))
theorem F_tenureref05_reader_next.sound {r : Option Addr} {h : Hp} {K : Int → Hp → Prop} {X : Chain → Hp → Prop} (H : F_tenureref05_reader_next.body r h K X) : F_tenureref05_reader_next.call r h K X := by
  unfold F_tenureref05_reader_next.body at H
  refine CallH.of Tryz.func74 rfl rfl fun w0 hw0 => ?_
  refine JC.seq (JC.region ?_)
  refine JO.p 1 [(2, .int .u8 0)] ?_
  refine JO.end_ (JC.next (JC.seq (JC.seq ?_)))
  obtain ⟨a1, na1, H⟩ := H
  obtain ⟨x2, lx2, H⟩ := H
  obtain ⟨x3, lx3, H⟩ := H
  obtain ⟨x4, lx4, H⟩ := H
  refine JC.viaQ [(0, .pointer r), (18, .bool (x2 || (decide (x3 ≥ (x4.length : Int)))))] ?_ ?_
  · refine JC.rd 16 ?_
    refine JD.rr 0 (.pointer r) ?_
    refine JD.t 1 (Yld.np na1) ?_
    refine JD.rr 2 (.pointer (some (a1.add 2))) ?_
    refine JD.hold (HoldS.cells 3 lx2) ?_
    refine JD.t 3 Yld.lh ?_
    refine JD.rr 4 (.bool x2) ?_
    refine JD.cs 7 x2 (fun hc5 => ?_) (fun hc5 => ?_)
    · refine JD.k 5 ?_
      refine JD.k 6 ?_
      refine JD.k 7 ?_
      refine JD.k 8 ?_
      refine JD.k 9 ?_
      refine JD.k 10 ?_
      refine JD.k 11 ?_
      refine JD.k 12 ?_
      refine JD.k 13 ?_
      refine JD.k 14 ?_
      refine JD.rr 15 (.bool true) ?_
      refine JD.e ?_
      exact JK.invQ (Sub.of (by skip; (try rw [hc5]); first | done | kernel_rfl))
    · refine JD.rr 5 (.pointer r) ?_
      refine JD.t 6 (Yld.np na1) ?_
      refine JD.rr 7 (.pointer (some (a1.add 1))) ?_
      refine JD.hold (HoldS.cells 8 (lx3 (hc5))) ?_
      refine JD.t 8 Yld.lh ?_
      refine JD.rr 9 (.pointer r) ?_
      refine JD.t 10 (Yld.np na1) ?_
      refine JD.rr 11 (.pointer (some (a1.add 0))) ?_
      refine JD.hold (HoldS.cells 12 (lx4 (hc5))) ?_
      refine JD.t 12 Yld.lh ?_
      refine JD.rr 13 (.int .i64 (x4.length : Int)) ?_
      refine JD.rr 14 (.bool (decide (x3 ≥ (x4.length : Int)))) ?_
      refine JD.rr 15 (.bool (decide (x3 ≥ (x4.length : Int)))) ?_
      refine JD.e ?_
      exact JK.invQ (Sub.of (by skip; (try rw [hc5]); first | done | kernel_rfl))
  refine JC.next ?_
  refine JC.cd (x2 || (decide (x3 ≥ (x4.length : Int)))) (fun hb => ?_) (fun hb => ?_)
  · have H := H.1 (hb)
    refine JC.seq (JC.region ?_)
    refine JO.p 1 [(2, .int .u8 0)] ?_
    refine JO.end_ (JC.next (JC.ret ?_))
    exact JK.retG1 (.int .u8 0) rfl RVal.s ⟨0, by kernel_rfl, H⟩
  · have H := H.2 (hb)
    refine JC.skip (JC.next (JC.seq ?_))
    refine JC.rd 10 ?_
    refine JD.rr 0 (.pointer r) ?_
    refine JD.t 1 (Yld.np na1) ?_
    refine JD.rr 2 (.pointer (some (a1.add 0))) ?_
    obtain ⟨x6, lx6, H⟩ := H
    refine JD.hold (HoldS.cells 3 lx6) ?_
    refine JD.t 3 Yld.lh ?_
    refine JD.rr 4 (.pointer r) ?_
    refine JD.t 5 (Yld.np na1) ?_
    refine JD.rr 6 (.pointer (some (a1.add 1))) ?_
    obtain ⟨x7, lx7, H⟩ := H
    refine JD.hold (HoldS.cells 7 lx7) ?_
    refine JD.t 7 Yld.lh ?_
    obtain ⟨q8, H⟩ := H
    refine JD.t 8 (Yld.ix .i64 x6 x7 q8) ?_
    let x9 : Int := bt x6 x7
    have H := H x9 rfl
    refine JD.rr 9 (.int .u8 x9) ?_
    refine JD.e ?_
    refine JC.next (JC.ret ?_)
    exact JK.retG1 (.int .u8 x9) rfl RVal.s ⟨x9, by kernel_rfl, H⟩

def F_tenureref05_within.body (c : Int) (a1_from : Int) (to : Int) (h : Hp) (K : Bool → Hp → Prop) (X : Chain → Hp → Prop) : Prop :=
K ((decide (c ≥ a1_from)) && (decide (c ≤ to))) h
theorem F_tenureref05_within.sound {c : Int} {a1_from : Int} {to : Int} {h : Hp} {K : Bool → Hp → Prop} {X : Chain → Hp → Prop} (H : F_tenureref05_within.body c a1_from to h K X) : F_tenureref05_within.call c a1_from to h K X := by
  unfold F_tenureref05_within.body at H
  refine CallH.of Tryz.func75 rfl rfl fun w0 hw0 => ?_
  refine JC.seq (JC.region ?_)
  refine JO.p 1 [(6, .bool false)] ?_
  refine JO.end_ (JC.next (JC.seq (JC.region ?_)))
  refine JO.p 4 [(10, .bool (decide (c ≥ a1_from)))] ?_
  refine JO.jq 8 [(14, .bool ((decide (c ≥ a1_from)) && (decide (c ≤ to))))] ?_ ?_
  · refine JO.cs 10 (decide (c ≥ a1_from)) (fun hc1 => ?_) (fun hc1 => ?_)
    · refine JO.p 8 [(14, .bool (decide (c ≤ to)))] ?_
      refine JO.end_ ?_
      exact JK.invQ (Sub.of (by (try rw [hc1]); first | done | kernel_rfl))
    · refine JO.p 8 [(14, .bool false)] ?_
      refine JO.end_ ?_
      exact JK.invQ (Sub.of (by (try rw [hc1]); first | done | kernel_rfl))
  refine JO.p 9 [(6, .bool ((decide (c ≥ a1_from)) && (decide (c ≤ to))))] ?_
  refine JO.end_ (JC.next (JC.ret ?_))
  exact JK.retG1 (.bool ((decide (c ≥ a1_from)) && (decide (c ≤ to)))) rfl RVal.s ⟨(decide (c ≥ a1_from)) && (decide (c ≤ to)), by kernel_rfl, H⟩

def F_tenureref05_reader_number.body (r : Option Addr) (least : Int) (most : Int) (h : Hp) (K : Int → Hp → Prop) (X : Chain → Hp → Prop) : Prop :=
NilW r (fun (a1 : Addr) => LoadW h (a1.add 1) (cI .i64) (fun (x2 : Int) => JoinW (fun (k3 : Unit → Hp → Prop) =>
F_tenureref05_reader_starts.call r ([45] : Str) h (fun (r6 : Bool) (h7 : Hp) => (r6 = true → LoadW h7 (a1.add 1) (cI .i64) (fun (x8 : Int) => StoreW h7 (a1.add 1) [.int .i64 (IntKind.i64.wrap (x8 + 1))] (fun (h9 : Hp) => k3 () h9))) ∧
(r6 = false → k3 () h7)) X) (fun (s4 : Unit) h5 =>
LoopW (fun (s10 : Unit) h11 next12 =>
F_tenureref05_reader_next.call r h11 (fun (r14 : Int) (h15 : Hp) => F_tenureref05_within.call r14 48 57 h15 (fun (r16 : Bool) (h17 : Hp) => LoadG (r16 = true) h17 (a1.add 1) (cI .i64) (fun (x18 : Int) => ((r16 && (decide ((IntKind.i64.wrap (x18 - x2)) < 20))) = true → LoadW h17 (a1.add 1) (cI .i64) (fun (x20 : Int) => StoreW h17 (a1.add 1) [.int .i64 (IntKind.i64.wrap (x20 + 1))] (fun (h21 : Hp) => next12 () h21))) ∧
((r16 && (decide ((IntKind.i64.wrap (x18 - x2)) < 20))) = false → LoadW h17 (a1.add 1) (cI .i64) (fun (x22 : Int) => LoadG (x2 < x22) h17 (a1.add 0) cS (fun (x23 : Str) => ((x2 < x22) → 0 ≤ x2 ∧ x2 < x23.length) ∧ LoopW (fun (s26 : Int × Int) h27 next28 =>
LoadW h27 (a1.add 1) (cI .i64) (fun (x30 : Int) => (s26.2 < x30 → JoinW (fun (k31 : Int → Hp → Prop) =>
LoadW h27 (a1.add 0) cS (fun (x34 : Str) => (0 ≤ s26.2 ∧ s26.2 < x34.length) ∧ (((bt x34 s26.2) == 45) = true → k31 s26.1 h27) ∧
(((bt x34 s26.2) == 45) = false → (0 ≤ s26.2 ∧ s26.2 < x34.length) ∧ ∀ (x37 : Int), x37 = IntKind.i64.wrap (IntKind.u8.wrap ((bt x34 s26.2) - 48)) → (s26.1 < (IntKind.i64.wrap ((IntKind.i64.wrap ((-576460752303423488) + x37)).tdiv 10)) → StoreW h27 (a1.add 2) [.bool true] (fun (h38 : Hp) => K 0 h38)) ∧
(¬ (s26.1 < (IntKind.i64.wrap ((IntKind.i64.wrap ((-576460752303423488) + x37)).tdiv 10))) → ∀ (x39 : Int), x39 = IntKind.i64.wrap ((IntKind.i64.wrap (10 * s26.1)) - x37) → k31 x39 h27)))) (fun (s32 : Int) h33 =>
∀ (x40 : Int), x40 = IntKind.i64.wrap (s26.2 + 1) → next28 (s32, x40) h33)) ∧
(¬ (s26.2 < x30) → JoinW (fun (k41 : Int → Hp → Prop) =>
((!((decide (x2 < x22)) && ((bt x23 x2) == 45))) = true → ∀ (x44 : Int), x44 = IntKind.i64.wrap (0 - s26.1) → k41 x44 h27) ∧
((!((decide (x2 < x22)) && ((bt x23 x2) == 45))) = false → k41 s26.1 h27)) (fun (s42 : Int) h43 =>
JoinW (fun (k45 : Bool → Hp → Prop) =>
LoadW h43 (a1.add 2) cB (fun (x48 : Bool) => (x48 = true → k45 true h43) ∧
(x48 = false → (s42 < least → k45 true h43) ∧
(¬ (s42 < least) → (s42 > most → k45 true h43) ∧
(¬ (s42 > most) → LoadW h43 (a1.add 0) cS (fun (x52 : Str) => LoadW h43 (a1.add 1) (cI .i64) (fun (x53 : Int) => (0 ≤ x2 ∧ x2 ≤ x53 ∧ x53 ≤ (x52.length : Int)) ∧ F_tenureref05_Dec.call s42 h43 (fun (r55 : Str) (h56 : Hp) => hcells h56 (a1.add 1) [.int .i64 x53] ∧ hcells h56 (a1.add 0) [.string (ba x52)] ∧ k45 (cmpS .neq (sub x52 x2 x53) r55) h56) X))))))) (fun (s46 : Bool) h47 =>
(s46 = true → StoreW h47 (a1.add 2) [.bool true] (fun (h59 : Hp) => K 0 h59)) ∧
(s46 = false → K s42 h47)))))) (0, x2) h17))))) X) X) () h5)))
theorem F_tenureref05_reader_number.sound {r : Option Addr} {least : Int} {most : Int} {h : Hp} {K : Int → Hp → Prop} {X : Chain → Hp → Prop} (H : F_tenureref05_reader_number.body r least most h K X) : F_tenureref05_reader_number.call r least most h K X := by
  unfold F_tenureref05_reader_number.body at H
  refine CallH.of Tryz.func76 rfl rfl fun w0 hw0 => ?_
  refine JC.seq (JC.region ?_)
  refine JO.p 1 [(6, .int .i64 0)] ?_
  refine JO.end_ (JC.next (JC.seq (JC.region ?_)))
  refine JO.p 1 [(12, .pointer r)] ?_
  obtain ⟨a1, na1, H⟩ := H
  refine JO.y 1 (Yld.np na1) ?_
  refine JO.p 3 [(14, .pointer (some (a1.add 1)))] ?_
  obtain ⟨x2, lx2, H⟩ := H
  refine JO.y 3 (Yld.le lx2) ?_
  refine JO.p 5 [(7, .int .i64 x2)] ?_
  refine JO.end_ (JC.next ?_)
  obtain ⟨k3, H, Hk3⟩ := H
  refine JC.join (S := Unit) (fun s4 => [(0, .pointer r), (1, .int .i64 least), (2, .int .i64 most), (7, .int .i64 x2)]) (fun s4 h' => KeepB [] h' ∧ k3 s4 h') ?_ ?_
  · refine JC.seq (JC.region ?_)
    refine JO.p 1 [(16, .pointer r)] ?_
    refine JO.s 1 (OpOk.c (CallH.mono H ?_ fun _ _ hx => hx))
    rintro _ h7 ⟨r6, rfl, H⟩
    refine JO.end_ (JC.next ?_)
    refine JC.cd r6 (fun hb => ?_) (fun hb => ?_)
    · have H := H.1 (hb)
      refine JC.region ?_
      refine JO.p 1 [(18, .pointer r)] ?_
      refine JO.y 1 (Yld.np na1) ?_
      refine JO.p 3 [(20, .pointer (some (a1.add 1)))] ?_
      obtain ⟨x8, lx8, H⟩ := H
      refine JO.y 3 (Yld.le lx8) ?_
      refine JO.p 5 [(22, .int .i64 (IntKind.i64.wrap (x8 + 1)))] ?_
      refine JO.y 5 (Yld.np na1) ?_
      refine JO.p 7 [(24, .pointer (some (a1.add 1)))] ?_
      obtain ⟨hs, H⟩ := H
      refine JO.s 7 (OpOk.st [.int .i64 (IntKind.i64.wrap (x8 + 1))] hs ?_)
      intro h9 hh
      have H := H h9 hh
      refine JO.end_ ?_
      exact JK.inv () Sub.kk ⟨(KeepB.nil _), H⟩
    · have H := H.2 (hb)
      refine JC.skip ?_
      exact JK.inv () Sub.kk ⟨(KeepB.nil _), H⟩
  · rintro s4 h5 ⟨hB, hk⟩
    have H := Hk3 s4 h5 hk
    refine JC.seq (JC.block ?_)
    obtain ⟨I13, μI13, hI13, H⟩ := H
    refine JC.loop (S := Unit) (fun s10 => [(0, .pointer r), (1, .int .i64 least), (2, .int .i64 most), (7, .int .i64 x2)]) (fun s10 h' => KeepB [] h' ∧ I13 s10 h') μI13 () Sub.kk ⟨KeepB.nil _, hI13⟩ ?_
    rintro s10 h11 ⟨hB, hI⟩
    have H := H s10 h11 hI
    refine JC.seq (JC.seq (JC.region ?_))
    refine JO.p 1 [(25, .pointer r)] ?_
    refine JO.s 1 (OpOk.c (CallH.mono H ?_ fun _ _ hx => hx))
    rintro _ h15 ⟨r14, rfl, H⟩
    refine JO.s 2 (OpOk.c (CallH.mono H ?_ fun _ _ hx => hx))
    rintro _ h17 ⟨r16, rfl, H⟩
    refine JO.p 4 [(28, .bool r16)] ?_
    obtain ⟨x18, lx18, H⟩ := H
    refine JO.jq 12 [(0, .pointer r), (1, .int .i64 least), (2, .int .i64 most), (7, .int .i64 x2), (36, .bool (r16 && (decide ((IntKind.i64.wrap (x18 - x2)) < 20))))] ?_ ?_
    · refine JO.cs 28 r16 (fun hc19 => ?_) (fun hc19 => ?_)
      · refine JO.p 5 [(29, .pointer r)] ?_
        refine JO.y 5 (Yld.np na1) ?_
        refine JO.p 7 [(31, .pointer (some (a1.add 1)))] ?_
        refine JO.y 7 (Yld.le (lx18 (hc19))) ?_
        refine JO.p 12 [(36, .bool (decide ((IntKind.i64.wrap (x18 - x2)) < 20)))] ?_
        refine JO.end_ ?_
        exact JK.invQ (Sub.of (by (try rw [hc19]); first | done | kernel_rfl))
      · refine JO.p 12 [(36, .bool false)] ?_
        refine JO.end_ ?_
        exact JK.invQ (Sub.of (by (try rw [hc19]); first | done | kernel_rfl))
    refine JO.end_ (JC.next ?_)
    refine JC.cd (r16 && (decide ((IntKind.i64.wrap (x18 - x2)) < 20))) (fun hb => ?_) (fun hb => ?_)
    · have H := H.1 (hb)
      refine JC.skip (JC.next (JC.block (JC.region ?_)))
      refine JO.p 1 [(37, .pointer r)] ?_
      refine JO.y 1 (Yld.np na1) ?_
      refine JO.p 3 [(39, .pointer (some (a1.add 1)))] ?_
      obtain ⟨x20, lx20, H⟩ := H
      refine JO.y 3 (Yld.le lx20) ?_
      refine JO.p 5 [(41, .int .i64 (IntKind.i64.wrap (x20 + 1)))] ?_
      refine JO.y 5 (Yld.np na1) ?_
      refine JO.p 7 [(43, .pointer (some (a1.add 1)))] ?_
      obtain ⟨hs, H⟩ := H
      refine JO.s 7 (OpOk.st [.int .i64 (IntKind.i64.wrap (x20 + 1))] hs ?_)
      intro h21 hh
      have H := H h21 hh
      refine JO.end_ ?_
      exact JK.inv () Sub.kk ⟨⟨(KeepB.nil _), H.1⟩, H.2⟩
    · have H := H.2 (hb)
      refine JC.exit rfl ?_
      refine JC.next (JC.seq (JC.region ?_))
      refine JO.p 2 [(44, .int .i64 x2), (45, .pointer r)] ?_
      refine JO.y 2 (Yld.np na1) ?_
      refine JO.p 4 [(47, .pointer (some (a1.add 1)))] ?_
      obtain ⟨x22, lx22, H⟩ := H
      refine JO.y 4 (Yld.le lx22) ?_
      refine JO.p 7 [(50, .bool (decide (x2 < x22)))] ?_
      obtain ⟨x23, lx23, H⟩ := H
      obtain ⟨q24, H⟩ := H
      refine JO.jq 15 [(0, .pointer r), (1, .int .i64 least), (2, .int .i64 most), (7, .int .i64 x2), (58, .bool ((decide (x2 < x22)) && ((bt x23 x2) == 45)))] ?_ ?_
      · refine JO.cs 50 (decide (x2 < x22)) (fun hc25 => ?_) (fun hc25 => ?_)
        · refine JO.p 8 [(51, .pointer r)] ?_
          refine JO.y 8 (Yld.np na1) ?_
          refine JO.p 10 [(53, .pointer (some (a1.add 0)))] ?_
          refine JO.y 10 (Yld.le (lx23 (of_decide_eq_true hc25))) ?_
          refine JO.p 12 [(55, .int .i64 x2)] ?_
          refine JO.y 12 (Yld.ix .i64 x23 x2 (q24 (of_decide_eq_true hc25))) ?_
          refine JO.p 15 [(58, .bool ((bt x23 x2) == 45))] ?_
          refine JO.end_ ?_
          exact JK.invQ (Sub.of (by (try rw [hc25]); first | done | kernel_rfl))
        · refine JO.p 15 [(58, .bool false)] ?_
          refine JO.end_ ?_
          exact JK.invQ (Sub.of (by (try rw [hc25]); first | done | kernel_rfl))
      refine JO.p 16 [(8, .bool ((decide (x2 < x22)) && ((bt x23 x2) == 45)))] ?_
      refine JO.end_ (JC.next (JC.seq (JC.region ?_)))
      refine JO.p 1 [(9, .int .i64 0)] ?_
      refine JO.end_ (JC.next (JC.seq (JC.seq (JC.region ?_))))
      refine JO.p 2 [(10, .int .i64 x2)] ?_
      refine JO.end_ (JC.next (JC.block ?_))
      obtain ⟨I29, μI29, hI29, H⟩ := H
      refine JC.loop (S := Int × Int) (fun s26 => [(0, .pointer r), (1, .int .i64 least), (2, .int .i64 most), (7, .int .i64 x2), (8, .bool ((decide (x2 < x22)) && ((bt x23 x2) == 45))), (9, .int .i64 s26.1), (10, .int .i64 s26.2)]) (fun s26 h' => KeepB [] h' ∧ I29 s26 h') μI29 (0, x2) Sub.kk ⟨KeepB.nil _, hI29⟩ ?_
      rintro s26 h27 ⟨hB, hI⟩
      have H := H s26 h27 hI
      refine JC.seq (JC.seq (JC.region ?_))
      refine JO.p 2 [(60, .int .i64 s26.2), (61, .pointer r)] ?_
      refine JO.y 2 (Yld.np na1) ?_
      refine JO.p 4 [(63, .pointer (some (a1.add 1)))] ?_
      obtain ⟨x30, lx30, H⟩ := H
      refine JO.y 4 (Yld.le lx30) ?_
      refine JO.p 6 [(65, .bool (decide (s26.2 < x30)))] ?_
      refine JO.end_ (JC.next ?_)
      refine JC.cd (decide (s26.2 < x30)) (fun hb => ?_) (fun hb => ?_)
      · have H := H.1 (of_decide_eq_true hb)
        refine JC.skip (JC.next ?_)
        obtain ⟨k31, H, Hk31⟩ := H
        refine JC.join (S := Int) (fun s32 => [(0, .pointer r), (1, .int .i64 least), (2, .int .i64 most), (7, .int .i64 x2), (8, .bool ((decide (x2 < x22)) && ((bt x23 x2) == 45))), (9, .int .i64 s32), (10, .int .i64 s26.2)]) (fun s32 h' => KeepB [] h' ∧ k31 s32 h') ?_ ?_
        · refine JC.block (JC.seq (JC.seq (JC.region ?_)))
          refine JO.p 1 [(68, .pointer r)] ?_
          refine JO.y 1 (Yld.np na1) ?_
          refine JO.p 3 [(70, .pointer (some (a1.add 0)))] ?_
          obtain ⟨x34, lx34, H⟩ := H
          refine JO.y 3 (Yld.le lx34) ?_
          refine JO.p 5 [(72, .int .i64 s26.2)] ?_
          obtain ⟨q35, H⟩ := H
          refine JO.y 5 (Yld.ix .i64 x34 s26.2 q35) ?_
          refine JO.p 7 [(74, .bool ((bt x34 s26.2) == 45))] ?_
          refine JO.end_ (JC.next ?_)
          refine JC.cd ((bt x34 s26.2) == 45) (fun hb => ?_) (fun hb => ?_)
          · have H := H.1 (hb)
            refine JC.exit rfl ?_
            exact JK.inv s26.1 Sub.kk ⟨(KeepB.nil _), H⟩
          · have H := H.2 (hb)
            refine JC.skip (JC.next (JC.seq (JC.region ?_)))
            refine JO.p 1 [(75, .pointer r)] ?_
            refine JO.y 1 (Yld.np na1) ?_
            refine JO.p 3 [(77, .pointer (some (a1.add 0)))] ?_
            refine JO.y 3 (Yld.le lx34) ?_
            refine JO.p 5 [(79, .int .i64 s26.2)] ?_
            obtain ⟨q36, H⟩ := H
            refine JO.y 5 (Yld.ix .i64 x34 s26.2 q36) ?_
            refine JO.p 8 [(82, .int .i64 (IntKind.i64.wrap (IntKind.u8.wrap ((bt x34 s26.2) - 48))))] ?_
            let x37 : Int := IntKind.i64.wrap (IntKind.u8.wrap ((bt x34 s26.2) - 48))
            have H := H x37 rfl
            refine JO.p 9 [(11, .int .i64 x37)] ?_
            refine JO.end_ (JC.next (JC.seq (JC.seq (JC.region ?_))))
            refine JO.p 5 [(87, .bool (decide (s26.1 < (IntKind.i64.wrap ((IntKind.i64.wrap ((-576460752303423488) + x37)).tdiv 10)))))] ?_
            refine JO.end_ (JC.next ?_)
            refine JC.cd (decide (s26.1 < (IntKind.i64.wrap ((IntKind.i64.wrap ((-576460752303423488) + x37)).tdiv 10)))) (fun hb => ?_) (fun hb => ?_)
            · have H := H.1 (of_decide_eq_true hb)
              refine JC.seq (JC.region ?_)
              refine JO.p 1 [(88, .pointer r)] ?_
              refine JO.y 1 (Yld.np na1) ?_
              refine JO.p 3 [(90, .pointer (some (a1.add 2)))] ?_
              obtain ⟨hs, H⟩ := H
              refine JO.s 3 (OpOk.st [.bool true] hs ?_)
              intro h38 hh
              have H := H h38 hh
              refine JO.end_ (JC.next (JC.seq (JC.region ?_)))
              refine JO.p 1 [(6, .int .i64 0)] ?_
              refine JO.end_ (JC.next (JC.ret ?_))
              exact JK.retG1 (.int .i64 0) rfl RVal.s ⟨0, by kernel_rfl, H⟩
            · have H := H.2 (of_decide_eq_false hb)
              refine JC.skip (JC.next (JC.region ?_))
              refine JO.p 4 [(94, .int .i64 (IntKind.i64.wrap ((IntKind.i64.wrap (10 * s26.1)) - x37)))] ?_
              let x39 : Int := IntKind.i64.wrap ((IntKind.i64.wrap (10 * s26.1)) - x37)
              have H := H x39 rfl
              refine JO.p 5 [(9, .int .i64 x39)] ?_
              refine JO.end_ ?_
              exact JK.inv x39 Sub.kk ⟨(KeepB.nil _), H⟩
        · rintro s32 h33 ⟨hB, hk⟩
          have H := Hk31 s32 h33 hk
          refine JC.region ?_
          refine JO.p 2 [(67, .int .i64 (IntKind.i64.wrap (s26.2 + 1)))] ?_
          let x40 : Int := IntKind.i64.wrap (s26.2 + 1)
          have H := H x40 rfl
          refine JO.p 3 [(10, .int .i64 x40)] ?_
          refine JO.end_ ?_
          exact JK.inv (s32, x40) Sub.kk ⟨⟨(KeepB.nil _), H.1⟩, H.2⟩
      · have H := H.2 (of_decide_eq_false hb)
        refine JC.exit rfl ?_
        refine JC.next ?_
        obtain ⟨k41, H, Hk41⟩ := H
        refine JC.join (S := Int) (fun s42 => [(0, .pointer r), (1, .int .i64 least), (2, .int .i64 most), (7, .int .i64 x2), (9, .int .i64 s42)]) (fun s42 h' => KeepB [] h' ∧ k41 s42 h') ?_ ?_
        · refine JC.seq (JC.region ?_)
          refine JO.p 2 [(96, .bool (!((decide (x2 < x22)) && ((bt x23 x2) == 45))))] ?_
          refine JO.end_ (JC.next ?_)
          refine JC.cd (!((decide (x2 < x22)) && ((bt x23 x2) == 45))) (fun hb => ?_) (fun hb => ?_)
          · have H := H.1 (hb)
            refine JC.region ?_
            refine JO.p 2 [(98, .int .i64 (IntKind.i64.wrap (0 - s26.1)))] ?_
            let x44 : Int := IntKind.i64.wrap (0 - s26.1)
            have H := H x44 rfl
            refine JO.p 3 [(9, .int .i64 x44)] ?_
            refine JO.end_ ?_
            exact JK.inv x44 Sub.kk ⟨(KeepB.nil _), H⟩
          · have H := H.2 (hb)
            refine JC.skip ?_
            exact JK.inv s26.1 Sub.kk ⟨(KeepB.nil _), H⟩
        · rintro s42 h43 ⟨hB, hk⟩
          have H := Hk41 s42 h43 hk
          refine JC.seq (JC.seq ?_)
          obtain ⟨k45, H, Hk45⟩ := H
          refine JC.via (S := Bool) (fun s46 => [(0, .pointer r), (9, .int .i64 s42), (127, .bool s46)]) (fun s46 h' => KeepB [] h' ∧ k45 s46 h') ?_ ?_
          · refine JC.rd 29 ?_
            refine JD.rr 0 (.pointer r) ?_
            refine JD.t 1 (Yld.np na1) ?_
            refine JD.rr 2 (.pointer (some (a1.add 2))) ?_
            obtain ⟨x48, lx48, H⟩ := H
            refine JD.hold (HoldS.cells 3 lx48) ?_
            refine JD.t 3 Yld.lh ?_
            refine JD.rr 4 (.bool x48) ?_
            refine JD.cs 103 x48 (fun hc49 => ?_) (fun hc49 => ?_)
            · have H := H.1 (hc49)
              refine JD.k 5 ?_
              refine JD.k 6 ?_
              refine JD.k 7 ?_
              refine JD.rr 8 (.bool true) ?_
              refine JD.rr 9 (.bool true) ?_
              refine JD.k 10 ?_
              refine JD.k 11 ?_
              refine JD.k 12 ?_
              refine JD.rr 13 (.bool true) ?_
              refine JD.rr 14 (.bool true) ?_
              refine JD.k 15 ?_
              refine JD.k 16 ?_
              refine JD.k 17 ?_
              refine JD.k 18 ?_
              refine JD.k 19 ?_
              refine JD.k 20 ?_
              refine JD.k 21 ?_
              refine JD.k 22 ?_
              refine JD.k 23 ?_
              refine JD.k 24 ?_
              refine JD.k 25 ?_
              refine JD.k 26 ?_
              refine JD.k 27 ?_
              refine JD.rr 28 (.bool true) ?_
              refine JD.e ?_
              exact JK.inv true (Sub.of (by skip; (try rw [hc49]); first | done | kernel_rfl)) ⟨KeepB.nil _, H⟩
            · have H := H.2 (hc49)
              refine JD.rr 5 (.int .i64 s42) ?_
              refine JD.rr 6 (.int .i64 least) ?_
              refine JD.rr 7 (.bool (decide (s42 < least))) ?_
              refine JD.rr 8 (.bool (decide (s42 < least))) ?_
              refine JD.rr 9 (.bool (decide (s42 < least))) ?_
              refine JD.cs 108 (decide (s42 < least)) (fun hc50 => ?_) (fun hc50 => ?_)
              · have H := H.1 (of_decide_eq_true hc50)
                refine JD.k 10 ?_
                refine JD.k 11 ?_
                refine JD.k 12 ?_
                refine JD.rr 13 (.bool true) ?_
                refine JD.rr 14 (.bool true) ?_
                refine JD.k 15 ?_
                refine JD.k 16 ?_
                refine JD.k 17 ?_
                refine JD.k 18 ?_
                refine JD.k 19 ?_
                refine JD.k 20 ?_
                refine JD.k 21 ?_
                refine JD.k 22 ?_
                refine JD.k 23 ?_
                refine JD.k 24 ?_
                refine JD.k 25 ?_
                refine JD.k 26 ?_
                refine JD.k 27 ?_
                refine JD.rr 28 (.bool true) ?_
                refine JD.e ?_
                exact JK.inv true (Sub.of (by skip; (try rw [hc49]); (try rw [hc50]); first | done | kernel_rfl)) ⟨KeepB.nil _, H⟩
              · have H := H.2 (of_decide_eq_false hc50)
                refine JD.rr 10 (.int .i64 s42) ?_
                refine JD.rr 11 (.int .i64 most) ?_
                refine JD.rr 12 (.bool (decide (s42 > most))) ?_
                refine JD.rr 13 (.bool (decide (s42 > most))) ?_
                refine JD.rr 14 (.bool (decide (s42 > most))) ?_
                refine JD.cs 113 (decide (s42 > most)) (fun hc51 => ?_) (fun hc51 => ?_)
                · have H := H.1 (of_decide_eq_true hc51)
                  refine JD.k 15 ?_
                  refine JD.k 16 ?_
                  refine JD.k 17 ?_
                  refine JD.k 18 ?_
                  refine JD.k 19 ?_
                  refine JD.k 20 ?_
                  refine JD.k 21 ?_
                  refine JD.k 22 ?_
                  refine JD.k 23 ?_
                  refine JD.k 24 ?_
                  refine JD.k 25 ?_
                  refine JD.k 26 ?_
                  refine JD.k 27 ?_
                  refine JD.rr 28 (.bool true) ?_
                  refine JD.e ?_
                  exact JK.inv true (Sub.of (by skip; (try rw [hc49]); (try rw [hc50]); (try rw [hc51]); first | done | kernel_rfl)) ⟨KeepB.nil _, H⟩
                · have H := H.2 (of_decide_eq_false hc51)
                  refine JD.rr 15 (.pointer r) ?_
                  refine JD.t 16 (Yld.np na1) ?_
                  refine JD.rr 17 (.pointer (some (a1.add 0))) ?_
                  obtain ⟨x52, lx52, H⟩ := H
                  refine JD.hold (HoldS.cells 18 lx52) ?_
                  refine JD.t 18 Yld.lh ?_
                  refine JD.rr 19 (.int .i64 x2) ?_
                  refine JD.rr 20 (.pointer r) ?_
                  refine JD.t 21 (Yld.np na1) ?_
                  refine JD.rr 22 (.pointer (some (a1.add 1))) ?_
                  obtain ⟨x53, lx53, H⟩ := H
                  refine JD.hold (HoldS.cells 23 lx53) ?_
                  refine JD.t 23 Yld.lh ?_
                  obtain ⟨q54, H⟩ := H
                  refine JD.t 24 (Yld.ss x52 (some x2) (some x53) q54) ?_
                  refine JD.rr 25 (.int .i64 s42) ?_
                  refine JD.o 26 (OpOk.c (CallH.mono H ?_ fun _ _ hx => hx))
                  rintro _ h56 ⟨r55, rfl, hL0, hL1, H⟩
                  have l57 := hL0
                  have l58 := hL1
                  refine ⟨(HoldS.cells 23 l57 (HoldS.cells 18 l58 (HoldS.drop 3 26 HoldS.nil))), ?_⟩
                  refine JD.t 27 (Yld.cp .neq (sub x52 x2 x53) r55) ?_
                  refine JD.rr 28 (.bool (cmpS .neq (sub x52 x2 x53) r55)) ?_
                  refine JD.e ?_
                  exact JK.inv (cmpS .neq (sub x52 x2 x53) r55) (Sub.of (by skip; (try rw [hc49]); (try rw [hc50]); (try rw [hc51]); first | done | kernel_rfl)) ⟨KeepB.nil _, H⟩
          rintro s46 h47 ⟨hB, hk⟩
          have H := Hk45 s46 h47 hk
          refine JC.next ?_
          refine JC.cd s46 (fun hb => ?_) (fun hb => ?_)
          · have H := H.1 (hb)
            refine JC.seq (JC.region ?_)
            refine JO.p 1 [(128, .pointer r)] ?_
            refine JO.y 1 (Yld.np na1) ?_
            refine JO.p 3 [(130, .pointer (some (a1.add 2)))] ?_
            obtain ⟨hs, H⟩ := H
            refine JO.s 3 (OpOk.st [.bool true] hs ?_)
            intro h59 hh
            have H := H h59 hh
            refine JO.end_ (JC.next (JC.seq (JC.region ?_)))
            refine JO.p 1 [(6, .int .i64 0)] ?_
            refine JO.end_ (JC.next (JC.ret ?_))
            exact JK.retG1 (.int .i64 0) rfl RVal.s ⟨0, by kernel_rfl, H⟩
          · have H := H.2 (hb)
            refine JC.skip (JC.next (JC.seq (JC.region ?_)))
            refine JO.p 2 [(6, .int .i64 s42)] ?_
            refine JO.end_ (JC.next (JC.ret ?_))
            exact JK.retG1 (.int .i64 s42) rfl RVal.s ⟨s42, by kernel_rfl, H⟩

def F_tenureref05_reader_quoted.body (r : Option Addr) (h : Hp) (K : V_api_Term → Hp → Prop) (X : Chain → Hp → Prop) : Prop :=
NilW r (fun (a3 : Addr) => ∀ (p1 : Nat) (h2 : Hp), New p1 h h2 → Ev [p1] h h2 → LoadW h2 (a3.add 1) (cI .i64) (fun (x4 : Int) => (LtAll [p1] h2 → F_tenureref05_reader_eat.call r ([39] : Str) h2 (fun (h5 : Hp) => SameOn [p1] h2 h5 ∧ LoopW (fun (s6 : Sl) h7 next8 =>
LoadW h7 (a3.add 2) cB (fun (x10 : Bool) => LoadG ((!x10) = true) h7 (a3.add 1) (cI .i64) (fun (x11 : Int) => LoadG ((!x10) = true) h7 (a3.add 0) cS (fun (x12 : Str) => LoadG (((!x10) && (decide (x11 < (x12.length : Int)))) = true) h7 (a3.add 0) cS (fun (x13 : Str) => LoadG (((!x10) && (decide (x11 < (x12.length : Int)))) = true) h7 (a3.add 1) (cI .i64) (fun (x14 : Int) => ((((!x10) && (decide (x11 < (x12.length : Int)))) = true) → 0 ≤ x14 ∧ x14 < x13.length) ∧ ((((!x10) && (decide (x11 < (x12.length : Int)))) && ((bt x13 x14) != 39)) = true → LoadW h7 (a3.add 0) cS (fun (x18 : Str) => LoadW h7 (a3.add 1) (cI .i64) (fun (x19 : Int) => (0 ≤ x19 ∧ x19 < x18.length) ∧ ∀ (x21 : Int), x21 = bt x18 x19 → StoreW h7 (a3.add 1) [.int .i64 (IntKind.i64.wrap (x19 + 1))] (fun (h22 : Hp) => SameOn [p1] h7 h22 ∧ JoinW (fun (k23 : Int → Hp → Prop) =>
((x21 == 92) = true → (LtAll [p1] h22 → F_tenureref05_reader_next.call r h22 (fun (r26 : Int) (h27 : Hp) => SameOn [p1] h22 h27 ∧ LoadW h27 (a3.add 1) (cI .i64) (fun (x28 : Int) => StoreW h27 (a3.add 1) [.int .i64 (IntKind.i64.wrap (x28 + 1))] (fun (h29 : Hp) => SameOn [p1] h27 h29 ∧ LoadG ((r26 == 120) = true) h29 (a3.add 1) (cI .i64) (fun (x30 : Int) => LoadG ((r26 == 120) = true) h29 (a3.add 0) cS (fun (x31 : Str) => (((r26 == 120) && (decide ((IntKind.i64.wrap (x30 + 2)) ≤ (x31.length : Int)))) = true → LoadW h29 (a3.add 0) cS (fun (x33 : Str) => LoadW h29 (a3.add 1) (cI .i64) (fun (x34 : Int) => (0 ≤ x34 ∧ x34 < x33.length) ∧ (0 ≤ IntKind.i64.wrap (x34 + 1) ∧ IntKind.i64.wrap (x34 + 1) < x33.length) ∧ (LtAll [p1] h29 → F_tenureref05_hex.call (bt x33 x34) h29 (fun (r37 : Int) (h38 : Hp) => SameOn [p1] h29 h38 ∧ hcells h38 (a3.add 1) [.int .i64 x34] ∧ hcells h38 (a3.add 0) [.string (ba x33)] ∧ (LtAll [p1] h38 → F_tenureref05_hex.call (bt x33 (IntKind.i64.wrap (x34 + 1))) h38 (fun (r41 : Int) (h42 : Hp) => SameOn [p1] h38 h42 ∧ ∀ (x43 : Int), x43 = IntKind.u8.wrap (IntKind.i64.wrap ((IntKind.i64.wrap (16 * r37)) + r41)) → LoadW h42 (a3.add 1) (cI .i64) (fun (x44 : Int) => StoreW h42 (a3.add 1) [.int .i64 (IntKind.i64.wrap (x44 + 2))] (fun (h45 : Hp) => SameOn [p1] h42 h45 ∧ k23 x43 h45))) X)) X)))) ∧
(((r26 == 120) && (decide ((IntKind.i64.wrap (x30 + 2)) ≤ (x31.length : Int)))) = false → k23 r26 h29)))))) X)) ∧
((x21 == 92) = false → k23 x21 h22)) (fun (s24 : Int) h25 =>
AllocW h25 5 [.int .u8 s24] (fun (p46 : Nat) (h47 : Hp) => AppW h47 5 1 1 [.int .u8 0] s6 (⟨some ⟨p46, 0, none⟩, 1, 1⟩ : Sl) (fun (s48 : Sl) (h49 : Hp) => SameOn [p1] h47 h49 ∧ next8 s48 h49))))))) ∧
((((!x10) && (decide (x11 < (x12.length : Int)))) && ((bt x13 x14) != 39)) = false → (LtAll [p1] h7 → F_tenureref05_reader_eat.call r ([39] : Str) h7 (fun (h50 : Hp) => SameOn [p1] h7 h50 ∧ StrW h50 s6 (fun (x51 : Str) => ∀ (p52 : Nat) (h54 : Hp), New p52 h50 h54 → Ev [p52, p1] h50 h54 → JoinW (fun (k55 : Unit → Hp → Prop) =>
JoinW (fun (k58 : Bool → Hp → Prop) =>
LoadW h54 (a3.add 2) cB (fun (x61 : Bool) => (x61 = true → k58 true h54) ∧
(x61 = false → ((s6.len : Int) > 64 → k58 true h54) ∧
(¬ ((s6.len : Int) > 64) → LoadW h54 (a3.add 0) cS (fun (x64 : Str) => LoadW h54 (a3.add 1) (cI .i64) (fun (x65 : Int) => (0 ≤ x4 ∧ x4 ≤ x65 ∧ x65 ≤ (x64.length : Int)) ∧ (LtAll [p52, p1] h54 → F_tenureref05_Text.call (⟨2, 0, x51, (⟨none, 0, 0⟩ : Sl)⟩ : V_api_Term) h54 (fun (r67 : Str) (h68 : Hp) => SameOn [p52, p1] h54 h68 ∧ hcells h68 (a3.add 1) [.int .i64 x65] ∧ hcells h68 (a3.add 0) [.string (ba x64)] ∧ k58 (cmpS .neq r67 (sub x64 x4 x65)) h68) X))))))) (fun (s59 : Bool) h60 =>
(s59 = true → StoreW h60 (a3.add 2) [.bool true] (fun (h71 : Hp) => SameOn [p52, p1] h60 h71 ∧ k55 () h71)) ∧
(s59 = false → k55 () h60))) (fun (s56 : Unit) h57 =>
∀ (h72 : Hp), Ev [p52, p1] h57 h72 → K (⟨2, 0, x51, (⟨none, 0, 0⟩ : Sl)⟩ : V_api_Term) h72))) X)))))))) (⟨none, 0, 0⟩ : Sl) h5) X)))
theorem F_tenureref05_reader_quoted.sound {r : Option Addr} {h : Hp} {K : V_api_Term → Hp → Prop} {X : Chain → Hp → Prop} (H : F_tenureref05_reader_quoted.body r h K X) : F_tenureref05_reader_quoted.call r h K X := by
  unfold F_tenureref05_reader_quoted.body at H
  refine CallH.of Tryz.func77 rfl rfl fun w0 hw0 => ?_
  refine JC.seq (JC.region ?_)
  refine JO.s 0 (OpOk.bp [.int .i64 0, .int .i64 0, .string (ba ([] : Str)), sl (⟨none, 0, 0⟩ : Sl)] 24 ?_)
  intro p1 h2 hp hh
  have hE := Ev.refl [] h
  have hB := KeepB.nil h
  have hNp1 : Array.size h ≤ p1 := hp ▸ hE.size
  have hB : KeepB [(p1, .cells #[.int .i64 0, .int .i64 0, .string (ba ([] : Str)), sl (⟨none, 0, 0⟩ : Sl)] 24 (0, 0))] h2 := hB.push hp hh
  have hE := hE.push hp hh
  refine JO.end_ (JC.next (JC.seq (JC.region ?_)))
  refine JO.p 1 [(7, .pointer r)] ?_
  obtain ⟨a3, na3, H⟩ := H
  refine JO.y 1 (Yld.np na3) ?_
  refine JO.p 3 [(9, .pointer (some (a3.add 1)))] ?_
  have H := H p1 h2 ⟨hNp1, hB.l 0⟩ hE
  have hE := Ev.refl [p1] h2
  obtain ⟨x4, lx4, H⟩ := H
  refine JO.y 3 (Yld.le lx4) ?_
  refine JO.p 5 [(3, .int .i64 x4)] ?_
  refine JO.end_ (JC.next (JC.seq (JC.region ?_)))
  refine JO.p 1 [(4, sl (⟨none, 0, 0⟩ : Sl))] ?_
  refine JO.end_ (JC.next (JC.seq (JC.region ?_)))
  refine JO.p 1 [(11, .pointer r)] ?_
  have H := H hB.ltAll
  refine JO.s 1 (OpOk.c (CallH.mono H ?_ fun _ _ hx => hx))
  rintro _ h5 ⟨rfl, hS, H⟩
  have hB := hB.same hS
  have hE := Ev.refl [p1] h5
  refine JO.end_ (JC.next (JC.seq (JC.block ?_)))
  obtain ⟨I9, μI9, hI9, H⟩ := H
  refine JC.loop (S := Sl) (fun s6 => [(0, .pointer r), (2, .pointer (some ⟨p1, 0, none⟩)), (3, .int .i64 x4), (4, sl s6)]) (fun s6 h' => KeepB [(p1, .cells #[.int .i64 0, .int .i64 0, .string (ba ([] : Str)), sl (⟨none, 0, 0⟩ : Sl)] 24 (0, 0))] h' ∧ I9 s6 h') μI9 (⟨none, 0, 0⟩ : Sl) Sub.kk ⟨hB, hI9⟩ ?_
  rintro s6 h7 ⟨hB, hI⟩
  have H := H s6 h7 hI
  have hE := Ev.refl [p1] h7
  refine JC.seq (JC.seq ?_)
  obtain ⟨x10, lx10, H⟩ := H
  obtain ⟨x11, lx11, H⟩ := H
  obtain ⟨x12, lx12, H⟩ := H
  obtain ⟨x13, lx13, H⟩ := H
  obtain ⟨x14, lx14, H⟩ := H
  obtain ⟨q15, H⟩ := H
  refine JC.viaQ [(0, .pointer r), (2, .pointer (some ⟨p1, 0, none⟩)), (3, .int .i64 x4), (4, sl s6), (41, .bool (((!x10) && (decide (x11 < (x12.length : Int)))) && ((bt x13 x14) != 39)))] ?_ ?_
  · refine JC.rd 29 ?_
    refine JD.rr 0 (.pointer r) ?_
    refine JD.t 1 (Yld.np na3) ?_
    refine JD.rr 2 (.pointer (some (a3.add 2))) ?_
    refine JD.hold (HoldS.cells 3 lx10) ?_
    refine JD.t 3 Yld.lh ?_
    refine JD.rr 4 (.bool (!x10)) ?_
    refine JD.rr 5 (.bool (!x10)) ?_
    refine JD.cs 18 (!x10) (fun hc16 => ?_) (fun hc16 => ?_)
    · refine JD.rr 6 (.pointer r) ?_
      refine JD.t 7 (Yld.np na3) ?_
      refine JD.rr 8 (.pointer (some (a3.add 1))) ?_
      refine JD.hold (HoldS.cells 9 (lx11 (hc16))) ?_
      refine JD.t 9 Yld.lh ?_
      refine JD.rr 10 (.pointer r) ?_
      refine JD.t 11 (Yld.np na3) ?_
      refine JD.rr 12 (.pointer (some (a3.add 0))) ?_
      refine JD.hold (HoldS.cells 13 (lx12 (hc16))) ?_
      refine JD.t 13 Yld.lh ?_
      refine JD.rr 14 (.int .i64 (x12.length : Int)) ?_
      refine JD.rr 15 (.bool (decide (x11 < (x12.length : Int)))) ?_
      refine JD.rr 16 (.bool (decide (x11 < (x12.length : Int)))) ?_
      refine JD.rr 17 (.bool (decide (x11 < (x12.length : Int)))) ?_
      refine JD.cs 30 (decide (x11 < (x12.length : Int))) (fun hc17 => ?_) (fun hc17 => ?_)
      · refine JD.rr 18 (.pointer r) ?_
        refine JD.t 19 (Yld.np na3) ?_
        refine JD.rr 20 (.pointer (some (a3.add 0))) ?_
        refine JD.hold (HoldS.cells 21 (lx13 ((show ((!x10) && (decide (x11 < (x12.length : Int)))) = true by (try rw [hc16]); (try rw [hc17]); first | done | rfl)))) ?_
        refine JD.t 21 Yld.lh ?_
        refine JD.rr 22 (.pointer r) ?_
        refine JD.t 23 (Yld.np na3) ?_
        refine JD.rr 24 (.pointer (some (a3.add 1))) ?_
        refine JD.hold (HoldS.cells 25 (lx14 ((show ((!x10) && (decide (x11 < (x12.length : Int)))) = true by (try rw [hc16]); (try rw [hc17]); first | done | rfl)))) ?_
        refine JD.t 25 Yld.lh ?_
        refine JD.t 26 (Yld.ix .i64 x13 x14 (q15 ((show ((!x10) && (decide (x11 < (x12.length : Int)))) = true by (try rw [hc16]); (try rw [hc17]); first | done | rfl)))) ?_
        refine JD.rr 27 (.bool ((bt x13 x14) != 39)) ?_
        refine JD.rr 28 (.bool ((bt x13 x14) != 39)) ?_
        refine JD.e ?_
        exact JK.invQ (Sub.of (by skip; (try rw [hc16]); (try rw [hc17]); first | done | kernel_rfl))
      · refine JD.k 18 ?_
        refine JD.k 19 ?_
        refine JD.k 20 ?_
        refine JD.k 21 ?_
        refine JD.k 22 ?_
        refine JD.k 23 ?_
        refine JD.k 24 ?_
        refine JD.k 25 ?_
        refine JD.k 26 ?_
        refine JD.k 27 ?_
        refine JD.rr 28 (.bool false) ?_
        refine JD.e ?_
        exact JK.invQ (Sub.of (by skip; (try rw [hc16]); (try rw [hc17]); first | done | kernel_rfl))
    · refine JD.k 6 ?_
      refine JD.k 7 ?_
      refine JD.k 8 ?_
      refine JD.k 9 ?_
      refine JD.k 10 ?_
      refine JD.k 11 ?_
      refine JD.k 12 ?_
      refine JD.k 13 ?_
      refine JD.k 14 ?_
      refine JD.k 15 ?_
      refine JD.rr 16 (.bool false) ?_
      refine JD.rr 17 (.bool false) ?_
      refine JD.k 18 ?_
      refine JD.k 19 ?_
      refine JD.k 20 ?_
      refine JD.k 21 ?_
      refine JD.k 22 ?_
      refine JD.k 23 ?_
      refine JD.k 24 ?_
      refine JD.k 25 ?_
      refine JD.k 26 ?_
      refine JD.k 27 ?_
      refine JD.rr 28 (.bool false) ?_
      refine JD.e ?_
      exact JK.invQ (Sub.of (by skip; (try rw [hc16]); first | done | kernel_rfl))
  refine JC.next ?_
  refine JC.cd (((!x10) && (decide (x11 < (x12.length : Int)))) && ((bt x13 x14) != 39)) (fun hb => ?_) (fun hb => ?_)
  · have H := H.1 (hb)
    refine JC.skip (JC.next (JC.block (JC.seq ?_)))
    refine JC.rd 10 ?_
    refine JD.rr 0 (.pointer r) ?_
    refine JD.t 1 (Yld.np na3) ?_
    refine JD.rr 2 (.pointer (some (a3.add 0))) ?_
    obtain ⟨x18, lx18, H⟩ := H
    refine JD.hold (HoldS.cells 3 lx18) ?_
    refine JD.t 3 Yld.lh ?_
    refine JD.rr 4 (.pointer r) ?_
    refine JD.t 5 (Yld.np na3) ?_
    refine JD.rr 6 (.pointer (some (a3.add 1))) ?_
    obtain ⟨x19, lx19, H⟩ := H
    refine JD.hold (HoldS.cells 7 lx19) ?_
    refine JD.t 7 Yld.lh ?_
    obtain ⟨q20, H⟩ := H
    refine JD.t 8 (Yld.ix .i64 x18 x19 q20) ?_
    let x21 : Int := bt x18 x19
    have H := H x21 rfl
    refine JD.rr 9 (.int .u8 x21) ?_
    refine JD.e ?_
    refine JC.next (JC.seq (JC.region ?_))
    refine JO.p 1 [(51, .pointer r)] ?_
    refine JO.y 1 (Yld.np na3) ?_
    refine JO.p 3 [(53, .pointer (some (a3.add 1)))] ?_
    refine JO.y 3 (Yld.le lx19) ?_
    refine JO.p 5 [(55, .int .i64 (IntKind.i64.wrap (x19 + 1)))] ?_
    refine JO.y 5 (Yld.np na3) ?_
    refine JO.p 7 [(57, .pointer (some (a3.add 1)))] ?_
    obtain ⟨hs, H⟩ := H
    refine JO.s 7 (OpOk.st [.int .i64 (IntKind.i64.wrap (x19 + 1))] hs ?_)
    intro h22 hh
    obtain ⟨hS, H⟩ := H h22 hh
    have hB := hB.same hS
    have hE := Ev.refl [p1] h22
    refine JO.end_ (JC.next ?_)
    obtain ⟨k23, H, Hk23⟩ := H
    refine JC.join (S := Int) (fun s24 => [(0, .pointer r), (2, .pointer (some ⟨p1, 0, none⟩)), (3, .int .i64 x4), (4, sl s6), (5, .int .u8 s24)]) (fun s24 h' => KeepB [(p1, .cells #[.int .i64 0, .int .i64 0, .string (ba ([] : Str)), sl (⟨none, 0, 0⟩ : Sl)] 24 (0, 0))] h' ∧ k23 s24 h') ?_ ?_
    · refine JC.seq (JC.region ?_)
      refine JO.p 2 [(59, .bool (x21 == 92))] ?_
      refine JO.end_ (JC.next ?_)
      refine JC.cd (x21 == 92) (fun hb => ?_) (fun hb => ?_)
      · have H := H.1 (hb)
        refine JC.seq (JC.region ?_)
        refine JO.p 1 [(60, .pointer r)] ?_
        have H := H hB.ltAll
        refine JO.s 1 (OpOk.c (CallH.mono H ?_ fun _ _ hx => hx))
        rintro _ h27 ⟨r26, rfl, hS, H⟩
        have hB := hB.same hS
        have hE := Ev.refl [p1] h27
        refine JO.p 3 [(5, .int .u8 r26)] ?_
        refine JO.end_ (JC.next (JC.seq (JC.region ?_)))
        refine JO.p 1 [(62, .pointer r)] ?_
        refine JO.y 1 (Yld.np na3) ?_
        refine JO.p 3 [(64, .pointer (some (a3.add 1)))] ?_
        obtain ⟨x28, lx28, H⟩ := H
        refine JO.y 3 (Yld.le lx28) ?_
        refine JO.p 5 [(66, .int .i64 (IntKind.i64.wrap (x28 + 1)))] ?_
        refine JO.y 5 (Yld.np na3) ?_
        refine JO.p 7 [(68, .pointer (some (a3.add 1)))] ?_
        obtain ⟨hs, H⟩ := H
        refine JO.s 7 (OpOk.st [.int .i64 (IntKind.i64.wrap (x28 + 1))] hs ?_)
        intro h29 hh
        obtain ⟨hS, H⟩ := H h29 hh
        have hB := hB.same hS
        have hE := Ev.refl [p1] h29
        refine JO.end_ (JC.next (JC.seq ?_))
        obtain ⟨x30, lx30, H⟩ := H
        obtain ⟨x31, lx31, H⟩ := H
        refine JC.viaQ [(0, .pointer r), (2, .pointer (some ⟨p1, 0, none⟩)), (3, .int .i64 x4), (4, sl s6), (5, .int .u8 r26), (83, .bool ((r26 == 120) && (decide ((IntKind.i64.wrap (x30 + 2)) ≤ (x31.length : Int)))))] ?_ ?_
        · refine JC.rd 15 ?_
          refine JD.rr 0 (.int .u8 r26) ?_
          refine JD.rr 1 (.bool (r26 == 120)) ?_
          refine JD.rr 2 (.bool (r26 == 120)) ?_
          refine JD.cs 71 (r26 == 120) (fun hc32 => ?_) (fun hc32 => ?_)
          · refine JD.rr 3 (.pointer r) ?_
            refine JD.t 4 (Yld.np na3) ?_
            refine JD.rr 5 (.pointer (some (a3.add 1))) ?_
            refine JD.hold (HoldS.cells 6 (lx30 (hc32))) ?_
            refine JD.t 6 Yld.lh ?_
            refine JD.rr 7 (.int .i64 (IntKind.i64.wrap (x30 + 2))) ?_
            refine JD.rr 8 (.pointer r) ?_
            refine JD.t 9 (Yld.np na3) ?_
            refine JD.rr 10 (.pointer (some (a3.add 0))) ?_
            refine JD.hold (HoldS.cells 11 (lx31 (hc32))) ?_
            refine JD.t 11 Yld.lh ?_
            refine JD.rr 12 (.int .i64 (x31.length : Int)) ?_
            refine JD.rr 13 (.bool (decide ((IntKind.i64.wrap (x30 + 2)) ≤ (x31.length : Int)))) ?_
            refine JD.rr 14 (.bool (decide ((IntKind.i64.wrap (x30 + 2)) ≤ (x31.length : Int)))) ?_
            refine JD.e ?_
            exact JK.invQ (Sub.of (by skip; (try rw [hc32]); first | done | kernel_rfl))
          · refine JD.k 3 ?_
            refine JD.k 4 ?_
            refine JD.k 5 ?_
            refine JD.k 6 ?_
            refine JD.k 7 ?_
            refine JD.k 8 ?_
            refine JD.k 9 ?_
            refine JD.k 10 ?_
            refine JD.k 11 ?_
            refine JD.k 12 ?_
            refine JD.k 13 ?_
            refine JD.rr 14 (.bool false) ?_
            refine JD.e ?_
            exact JK.invQ (Sub.of (by skip; (try rw [hc32]); first | done | kernel_rfl))
        refine JC.next ?_
        refine JC.cd ((r26 == 120) && (decide ((IntKind.i64.wrap (x30 + 2)) ≤ (x31.length : Int)))) (fun hb => ?_) (fun hb => ?_)
        · have H := H.1 (hb)
          refine JC.seq ?_
          refine JC.rd 25 ?_
          refine JD.rr 0 (.pointer r) ?_
          refine JD.t 1 (Yld.np na3) ?_
          refine JD.rr 2 (.pointer (some (a3.add 0))) ?_
          obtain ⟨x33, lx33, H⟩ := H
          refine JD.hold (HoldS.cells 3 lx33) ?_
          refine JD.t 3 Yld.lh ?_
          refine JD.rr 4 (.pointer r) ?_
          refine JD.t 5 (Yld.np na3) ?_
          refine JD.rr 6 (.pointer (some (a3.add 1))) ?_
          obtain ⟨x34, lx34, H⟩ := H
          refine JD.hold (HoldS.cells 7 lx34) ?_
          refine JD.t 7 Yld.lh ?_
          obtain ⟨q35, H⟩ := H
          refine JD.t 8 (Yld.ix .i64 x33 x34 q35) ?_
          refine JD.rr 11 (.pointer r) ?_
          refine JD.t 12 (Yld.np na3) ?_
          refine JD.rr 13 (.pointer (some (a3.add 0))) ?_
          refine JD.hold (HoldS.cells 14 lx33) ?_
          refine JD.t 14 Yld.lh ?_
          refine JD.rr 15 (.pointer r) ?_
          refine JD.t 16 (Yld.np na3) ?_
          refine JD.rr 17 (.pointer (some (a3.add 1))) ?_
          refine JD.hold (HoldS.cells 18 lx34) ?_
          refine JD.t 18 Yld.lh ?_
          refine JD.rr 19 (.int .i64 (IntKind.i64.wrap (x34 + 1))) ?_
          obtain ⟨q36, H⟩ := H
          refine JD.t 20 (Yld.ix .i64 x33 (IntKind.i64.wrap (x34 + 1)) q36) ?_
          have H := H hB.ltAll
          refine JD.o 9 (OpOk.c (CallH.mono H ?_ fun _ _ hx => hx))
          rintro _ h38 ⟨r37, rfl, hS, hL0, hL1, H⟩
          have hB := hB.same hS
          have hE := Ev.refl [p1] h38
          have l39 := hL0
          have l40 := hL1
          refine ⟨(HoldS.cells 18 l39 (HoldS.cells 14 l40 (HoldS.drop 7 9 (HoldS.drop 3 9 HoldS.nil)))), ?_⟩
          refine JD.rr 10 (.int .i64 (IntKind.i64.wrap (16 * r37))) ?_
          have H := H hB.ltAll
          refine JD.o 21 (OpOk.c (CallH.mono H ?_ fun _ _ hx => hx))
          rintro _ h42 ⟨r41, rfl, hS, H⟩
          have hB := hB.same hS
          have hE := Ev.refl [p1] h42
          refine ⟨(HoldS.drop 18 21 (HoldS.drop 14 21 (HoldS.drop 7 9 (HoldS.drop 3 9 HoldS.nil)))), ?_⟩
          refine JD.rr 22 (.int .i64 (IntKind.i64.wrap ((IntKind.i64.wrap (16 * r37)) + r41))) ?_
          refine JD.rr 23 (.int .u8 (IntKind.u8.wrap (IntKind.i64.wrap ((IntKind.i64.wrap (16 * r37)) + r41)))) ?_
          let x43 : Int := IntKind.u8.wrap (IntKind.i64.wrap ((IntKind.i64.wrap (16 * r37)) + r41))
          have H := H x43 rfl
          refine JD.rr 24 (.int .u8 x43) ?_
          refine JD.e ?_
          refine JC.next (JC.region ?_)
          refine JO.p 2 [(108, .pointer r), (109, .pointer r)] ?_
          refine JO.y 2 (Yld.np na3) ?_
          refine JO.p 4 [(111, .pointer (some (a3.add 1)))] ?_
          obtain ⟨x44, lx44, H⟩ := H
          refine JO.y 4 (Yld.le lx44) ?_
          refine JO.p 6 [(113, .int .i64 (IntKind.i64.wrap (x44 + 2)))] ?_
          refine JO.y 6 (Yld.np na3) ?_
          refine JO.p 8 [(115, .pointer (some (a3.add 1)))] ?_
          obtain ⟨hs, H⟩ := H
          refine JO.s 8 (OpOk.st [.int .i64 (IntKind.i64.wrap (x44 + 2))] hs ?_)
          intro h45 hh
          obtain ⟨hS, H⟩ := H h45 hh
          have hB := hB.same hS
          have hE := Ev.refl [p1] h45
          refine JO.end_ ?_
          exact JK.inv x43 Sub.kk ⟨hB, H⟩
        · have H := H.2 (hb)
          refine JC.skip ?_
          exact JK.inv r26 Sub.kk ⟨hB, H⟩
      · have H := H.2 (hb)
        refine JC.skip ?_
        exact JK.inv x21 Sub.kk ⟨hB, H⟩
    · rintro s24 h25 ⟨hB, hk⟩
      have H := Hk23 s24 h25 hk
      have hE := Ev.refl [p1] h25
      refine JC.region ?_
      refine JO.p 2 [(116, sl s6), (117, .int .u8 s24)] ?_
      refine JO.s 2 (OpOk.bs 1 [.int .u8 s24] 5 ?_)
      intro p46 h47 hp hh
      have H := H p46 h47 hp hh
      have hB := hB.grow hh
      have hE := Ev.refl [p1] h47
      refine JO.s 3 (OpOk.as 5 (.int .u8 0) H ?_)
      rintro s48 h49 ⟨hS, H⟩
      have hB := hB.same hS
      have hE := Ev.refl [p1] h49
      refine JO.p 5 [(4, sl s48)] ?_
      refine JO.end_ ?_
      exact JK.inv s48 Sub.kk ⟨⟨hB, H.1⟩, H.2⟩
  · have H := H.2 (hb)
    refine JC.exit rfl ?_
    refine JC.next (JC.seq (JC.region ?_))
    refine JO.p 1 [(120, .pointer r)] ?_
    have H := H hB.ltAll
    refine JO.s 1 (OpOk.c (CallH.mono H ?_ fun _ _ hx => hx))
    rintro _ h50 ⟨rfl, hS, H⟩
    have hB := hB.same hS
    have hE := Ev.refl [p1] h50
    refine JO.end_ (JC.next (JC.seq (JC.region ?_)))
    refine JO.p 1 [(122, sl s6)] ?_
    obtain ⟨x51, h_1, h_2, H⟩ := H
    refine JO.y 1 (Yld.sb 5 h_1 h_2) ?_
    refine JO.p 3 [(124, .agg #[.int .i64 2, .int .i64 0, .string (ba x51), sl (⟨none, 0, 0⟩ : Sl)])] ?_
    refine JO.s 3 (OpOk.bp [.int .i64 0, .int .i64 0, .string (ba ([] : Str)), sl (⟨none, 0, 0⟩ : Sl)] 24 ?_)
    intro p52 h53 hp hh
    have hNp52 : Array.size h50 ≤ p52 := hp ▸ hE.size
    have hB : KeepB [(p52, .cells #[.int .i64 0, .int .i64 0, .string (ba ([] : Str)), sl (⟨none, 0, 0⟩ : Sl)] 24 (0, 0)), (p1, .cells #[.int .i64 0, .int .i64 0, .string (ba ([] : Str)), sl (⟨none, 0, 0⟩ : Sl)] 24 (0, 0))] h53 := hB.push hp hh
    have hE := hE.push hp hh
    refine JO.s 4 (OpOk.st [.int .i64 2, .int .i64 0, .string (ba x51), sl (⟨none, 0, 0⟩ : Sl)] (KeepB.st hB 0 0 4) ?_)
    intro h54 hh
    have hE := hE.set hh (by simp [add_block])
    have hB : KeepB [(p52, .cells #[.int .i64 2, .int .i64 0, .string (ba x51), sl (⟨none, 0, 0⟩ : Sl)] 24 (0, 0)), (p1, .cells #[.int .i64 0, .int .i64 0, .string (ba ([] : Str)), sl (⟨none, 0, 0⟩ : Sl)] 24 (0, 0))] h54 := hB.set 0 rfl (off := 0) rfl hh
    refine JO.end_ (JC.next ?_)
    have H := H p52 h54 ⟨hNp52, hB.l 0⟩ hE
    have hE := Ev.refl [p52, p1] h54
    obtain ⟨k55, H, Hk55⟩ := H
    refine JC.join (S := Unit) (fun s56 => [(2, .pointer (some ⟨p1, 0, none⟩)), (6, .pointer (some ⟨p52, 0, none⟩))]) (fun s56 h' => KeepB [(p52, .cells #[.int .i64 2, .int .i64 0, .string (ba x51), sl (⟨none, 0, 0⟩ : Sl)] 24 (0, 0)), (p1, .cells #[.int .i64 0, .int .i64 0, .string (ba ([] : Str)), sl (⟨none, 0, 0⟩ : Sl)] 24 (0, 0))] h' ∧ k55 s56 h') ?_ ?_
    · refine JC.seq ?_
      obtain ⟨k58, H, Hk58⟩ := H
      refine JC.via (S := Bool) (fun s59 => [(0, .pointer r), (2, .pointer (some ⟨p1, 0, none⟩)), (6, .pointer (some ⟨p52, 0, none⟩)), (148, .bool s59)]) (fun s59 h' => KeepB [(p52, .cells #[.int .i64 2, .int .i64 0, .string (ba x51), sl (⟨none, 0, 0⟩ : Sl)] 24 (0, 0)), (p1, .cells #[.int .i64 0, .int .i64 0, .string (ba ([] : Str)), sl (⟨none, 0, 0⟩ : Sl)] 24 (0, 0))] h' ∧ k58 s59 h') ?_ ?_
      · refine JC.rd 24 ?_
        refine JD.rr 0 (.pointer r) ?_
        refine JD.t 1 (Yld.np na3) ?_
        refine JD.rr 2 (.pointer (some (a3.add 2))) ?_
        obtain ⟨x61, lx61, H⟩ := H
        refine JD.hold (HoldS.cells 3 lx61) ?_
        refine JD.t 3 Yld.lh ?_
        refine JD.rr 4 (.bool x61) ?_
        refine JD.cs 129 x61 (fun hc62 => ?_) (fun hc62 => ?_)
        · have H := H.1 (hc62)
          refine JD.k 5 ?_
          refine JD.k 6 ?_
          refine JD.k 7 ?_
          refine JD.rr 8 (.bool true) ?_
          refine JD.rr 9 (.bool true) ?_
          refine JD.k 10 ?_
          refine JD.k 11 ?_
          refine JD.k 12 ?_
          refine JD.k 13 ?_
          refine JD.k 14 ?_
          refine JD.k 15 ?_
          refine JD.k 16 ?_
          refine JD.k 17 ?_
          refine JD.k 18 ?_
          refine JD.k 19 ?_
          refine JD.k 20 ?_
          refine JD.k 21 ?_
          refine JD.k 22 ?_
          refine JD.rr 23 (.bool true) ?_
          refine JD.e ?_
          exact JK.inv true (Sub.of (by skip; (try rw [hc62]); first | done | kernel_rfl)) ⟨hB, H⟩
        · have H := H.2 (hc62)
          refine JD.rr 5 (sl s6) ?_
          refine JD.rr 6 (.int .i64 (s6.len : Int)) ?_
          refine JD.rr 7 (.bool (decide ((s6.len : Int) > 64))) ?_
          refine JD.rr 8 (.bool (decide ((s6.len : Int) > 64))) ?_
          refine JD.rr 9 (.bool (decide ((s6.len : Int) > 64))) ?_
          refine JD.cs 134 (decide ((s6.len : Int) > 64)) (fun hc63 => ?_) (fun hc63 => ?_)
          · have H := H.1 (of_decide_eq_true hc63)
            refine JD.k 10 ?_
            refine JD.k 11 ?_
            refine JD.k 12 ?_
            refine JD.k 13 ?_
            refine JD.k 14 ?_
            refine JD.k 15 ?_
            refine JD.k 16 ?_
            refine JD.k 17 ?_
            refine JD.k 18 ?_
            refine JD.k 19 ?_
            refine JD.k 20 ?_
            refine JD.k 21 ?_
            refine JD.k 22 ?_
            refine JD.rr 23 (.bool true) ?_
            refine JD.e ?_
            exact JK.inv true (Sub.of (by skip; (try rw [hc62]); (try rw [hc63]); first | done | kernel_rfl)) ⟨hB, H⟩
          · have H := H.2 (of_decide_eq_false hc63)
            refine JD.hold (HoldS.cells 10 (KeepB.c hB 0 0 [.int .i64 2, .int .i64 0, .string (ba x51), sl (⟨none, 0, 0⟩ : Sl)])) ?_
            refine JD.t 10 Yld.lnh ?_
            refine JD.rr 12 (.pointer r) ?_
            refine JD.t 13 (Yld.np na3) ?_
            refine JD.rr 14 (.pointer (some (a3.add 0))) ?_
            obtain ⟨x64, lx64, H⟩ := H
            refine JD.hold (HoldS.cells 15 lx64) ?_
            refine JD.t 15 Yld.lh ?_
            refine JD.rr 16 (.int .i64 x4) ?_
            refine JD.rr 17 (.pointer r) ?_
            refine JD.t 18 (Yld.np na3) ?_
            refine JD.rr 19 (.pointer (some (a3.add 1))) ?_
            obtain ⟨x65, lx65, H⟩ := H
            refine JD.hold (HoldS.cells 20 lx65) ?_
            refine JD.t 20 Yld.lh ?_
            obtain ⟨q66, H⟩ := H
            refine JD.t 21 (Yld.ss x64 (some x4) (some x65) q66) ?_
            have H := H hB.ltAll
            refine JD.o 11 (OpOk.c (CallH.mono H ?_ fun _ _ hx => hx))
            rintro _ h68 ⟨r67, rfl, hS, hL0, hL1, H⟩
            have hB := hB.same hS
            have hE := Ev.refl [p52, p1] h68
            have l69 := hL0
            have l70 := hL1
            refine ⟨(HoldS.cells 20 l69 (HoldS.cells 15 l70 (HoldS.drop 10 11 (HoldS.drop 3 11 HoldS.nil)))), ?_⟩
            refine JD.t 22 (Yld.cp .neq r67 (sub x64 x4 x65)) ?_
            refine JD.rr 23 (.bool (cmpS .neq r67 (sub x64 x4 x65))) ?_
            refine JD.e ?_
            exact JK.inv (cmpS .neq r67 (sub x64 x4 x65)) (Sub.of (by skip; (try rw [hc62]); (try rw [hc63]); first | done | kernel_rfl)) ⟨hB, H⟩
      rintro s59 h60 ⟨hB, hk⟩
      have H := Hk58 s59 h60 hk
      have hE := Ev.refl [p52, p1] h60
      refine JC.next ?_
      refine JC.cd s59 (fun hb => ?_) (fun hb => ?_)
      · have H := H.1 (hb)
        refine JC.region ?_
        refine JO.p 1 [(149, .pointer r)] ?_
        refine JO.y 1 (Yld.np na3) ?_
        refine JO.p 3 [(151, .pointer (some (a3.add 2)))] ?_
        obtain ⟨hs, H⟩ := H
        refine JO.s 3 (OpOk.st [.bool true] hs ?_)
        intro h71 hh
        obtain ⟨hS, H⟩ := H h71 hh
        have hB := hB.same hS
        have hE := Ev.refl [p52, p1] h71
        refine JO.end_ ?_
        exact JK.inv () Sub.kk ⟨hB, H⟩
      · have H := H.2 (hb)
        refine JC.skip ?_
        exact JK.inv () Sub.kk ⟨hB, H⟩
    · rintro s56 h57 ⟨hB, hk⟩
      have H := Hk55 s56 h57 hk
      have hE := Ev.refl [p52, p1] h57
      refine JC.seq (JC.region ?_)
      refine JO.y 0 (Yld.lne (KeepB.c hB 0 0 [.int .i64 2, .int .i64 0, .string (ba x51), sl (⟨none, 0, 0⟩ : Sl)])) ?_
      refine JO.s 1 (OpOk.st [.int .i64 2, .int .i64 0, .string (ba x51), sl (⟨none, 0, 0⟩ : Sl)] (KeepB.st hB 1 0 4) ?_)
      intro h72 hh
      have hE := hE.set hh (by simp [add_block])
      have hB : KeepB [(p52, .cells #[.int .i64 2, .int .i64 0, .string (ba x51), sl (⟨none, 0, 0⟩ : Sl)] 24 (0, 0)), (p1, .cells #[.int .i64 2, .int .i64 0, .string (ba x51), sl (⟨none, 0, 0⟩ : Sl)] 24 (0, 0))] h72 := hB.set 1 rfl (off := 0) rfl hh
      refine JO.end_ (JC.next (JC.ret ?_))
      have H := H h72 hE
      have hE := Ev.refl [p52, p1] h72
      exact JK.retG1 (.agg #[.int .i64 2, .int .i64 0, .string (ba x51), sl (⟨none, 0, 0⟩ : Sl)]) rfl (RVal.bN p1 24 hB 1) ⟨(⟨2, 0, x51, (⟨none, 0, 0⟩ : Sl)⟩ : V_api_Term), by kernel_rfl, H⟩

def F_tenureref05_reader_plain.body (r : Option Addr) (h : Hp) (K : V_api_Term → Hp → Prop) (X : Chain → Hp → Prop) : Prop :=
NilW r (fun (a3 : Addr) => ∀ (p1 : Nat) (h2 : Hp), New p1 h h2 → Ev [p1] h h2 → LoadW h2 (a3.add 1) (cI .i64) (fun (x4 : Int) => LoopW (fun (s5 : Unit) h6 next7 =>
JoinW (fun (k9 : Bool → Hp → Prop) =>
LoadW h6 (a3.add 1) (cI .i64) (fun (x12 : Int) => LoadW h6 (a3.add 0) cS (fun (x13 : Str) => (x12 < (x13.length : Int) → (0 ≤ x12 ∧ x12 ≤ (IntKind.i64.wrap (x12 + 1)) ∧ (IntKind.i64.wrap (x12 + 1)) ≤ (x13.length : Int)) ∧ (([97] : Str).length + (sub x13 x12 (IntKind.i64.wrap (x12 + 1))).length ≤ maxLen) ∧ (LtAll [p1] h6 → F_tenureref05_Plain.call (([97] : Str) ++ (sub x13 x12 (IntKind.i64.wrap (x12 + 1)))) h6 (fun (r17 : Bool) (h18 : Hp) => SameOn [p1] h6 h18 ∧ k9 r17 h18) X)) ∧
(¬ (x12 < (x13.length : Int)) → k9 false h6)))) (fun (s10 : Bool) h11 =>
(s10 = true → LoadW h11 (a3.add 1) (cI .i64) (fun (x19 : Int) => StoreW h11 (a3.add 1) [.int .i64 (IntKind.i64.wrap (x19 + 1))] (fun (h20 : Hp) => SameOn [p1] h11 h20 ∧ next7 () h20))) ∧
(s10 = false → LoadW h11 (a3.add 0) cS (fun (x21 : Str) => LoadW h11 (a3.add 1) (cI .i64) (fun (x22 : Int) => (0 ≤ x4 ∧ x4 ≤ x22 ∧ x22 ≤ (x21.length : Int)) ∧ JoinW (fun (k24 : Unit → Hp → Prop) =>
(LtAll [p1] h11 → F_tenureref05_Plain.call (sub x21 x4 x22) h11 (fun (r27 : Bool) (h28 : Hp) => SameOn [p1] h11 h28 ∧ ((!r27) = true → StoreW h28 (a3.add 2) [.bool true] (fun (h29 : Hp) => SameOn [p1] h28 h29 ∧ k24 () h29)) ∧
((!r27) = false → k24 () h28)) X)) (fun (s25 : Unit) h26 =>
∀ (h30 : Hp), Ev [p1] h26 h30 → K (⟨2, 0, sub x21 x4 x22, (⟨none, 0, 0⟩ : Sl)⟩ : V_api_Term) h30)))))) () h2))
theorem F_tenureref05_reader_plain.sound {r : Option Addr} {h : Hp} {K : V_api_Term → Hp → Prop} {X : Chain → Hp → Prop} (H : F_tenureref05_reader_plain.body r h K X) : F_tenureref05_reader_plain.call r h K X := by
  unfold F_tenureref05_reader_plain.body at H
  refine CallH.of Tryz.func78 rfl rfl fun w0 hw0 => ?_
  refine JC.seq (JC.region ?_)
  refine JO.s 0 (OpOk.bp [.int .i64 0, .int .i64 0, .string (ba ([] : Str)), sl (⟨none, 0, 0⟩ : Sl)] 24 ?_)
  intro p1 h2 hp hh
  have hE := Ev.refl [] h
  have hB := KeepB.nil h
  have hNp1 : Array.size h ≤ p1 := hp ▸ hE.size
  have hB : KeepB [(p1, .cells #[.int .i64 0, .int .i64 0, .string (ba ([] : Str)), sl (⟨none, 0, 0⟩ : Sl)] 24 (0, 0))] h2 := hB.push hp hh
  have hE := hE.push hp hh
  refine JO.end_ (JC.next (JC.seq (JC.region ?_)))
  refine JO.p 1 [(5, .pointer r)] ?_
  obtain ⟨a3, na3, H⟩ := H
  refine JO.y 1 (Yld.np na3) ?_
  refine JO.p 3 [(7, .pointer (some (a3.add 1)))] ?_
  have H := H p1 h2 ⟨hNp1, hB.l 0⟩ hE
  have hE := Ev.refl [p1] h2
  obtain ⟨x4, lx4, H⟩ := H
  refine JO.y 3 (Yld.le lx4) ?_
  refine JO.p 5 [(3, .int .i64 x4)] ?_
  refine JO.end_ (JC.next (JC.seq (JC.block ?_)))
  obtain ⟨I8, μI8, hI8, H⟩ := H
  refine JC.loop (S := Unit) (fun s5 => [(0, .pointer r), (2, .pointer (some ⟨p1, 0, none⟩)), (3, .int .i64 x4)]) (fun s5 h' => KeepB [(p1, .cells #[.int .i64 0, .int .i64 0, .string (ba ([] : Str)), sl (⟨none, 0, 0⟩ : Sl)] 24 (0, 0))] h' ∧ I8 s5 h') μI8 () Sub.kk ⟨hB, hI8⟩ ?_
  rintro s5 h6 ⟨hB, hI⟩
  have H := H s5 h6 hI
  have hE := Ev.refl [p1] h6
  refine JC.seq (JC.seq ?_)
  obtain ⟨k9, H, Hk9⟩ := H
  refine JC.via (S := Bool) (fun s10 => [(0, .pointer r), (2, .pointer (some ⟨p1, 0, none⟩)), (3, .int .i64 x4), (36, .bool s10)]) (fun s10 h' => KeepB [(p1, .cells #[.int .i64 0, .int .i64 0, .string (ba ([] : Str)), sl (⟨none, 0, 0⟩ : Sl)] 24 (0, 0))] h' ∧ k9 s10 h') ?_ ?_
  · refine JC.rd 28 ?_
    refine JD.rr 0 (.pointer r) ?_
    refine JD.t 1 (Yld.np na3) ?_
    refine JD.rr 2 (.pointer (some (a3.add 1))) ?_
    obtain ⟨x12, lx12, H⟩ := H
    refine JD.hold (HoldS.cells 3 lx12) ?_
    refine JD.t 3 Yld.lh ?_
    refine JD.rr 4 (.pointer r) ?_
    refine JD.t 5 (Yld.np na3) ?_
    refine JD.rr 6 (.pointer (some (a3.add 0))) ?_
    obtain ⟨x13, lx13, H⟩ := H
    refine JD.hold (HoldS.cells 7 lx13) ?_
    refine JD.t 7 Yld.lh ?_
    refine JD.rr 8 (.int .i64 (x13.length : Int)) ?_
    refine JD.rr 9 (.bool (decide (x12 < (x13.length : Int)))) ?_
    refine JD.rr 10 (.bool (decide (x12 < (x13.length : Int)))) ?_
    refine JD.cs 19 (decide (x12 < (x13.length : Int))) (fun hc14 => ?_) (fun hc14 => ?_)
    · have H := H.1 (of_decide_eq_true hc14)
      refine JD.rr 11 (.pointer r) ?_
      refine JD.t 12 (Yld.np na3) ?_
      refine JD.rr 13 (.pointer (some (a3.add 0))) ?_
      refine JD.hold (HoldS.cells 14 lx13) ?_
      refine JD.t 14 Yld.lh ?_
      refine JD.rr 15 (.pointer r) ?_
      refine JD.t 16 (Yld.np na3) ?_
      refine JD.rr 17 (.pointer (some (a3.add 1))) ?_
      refine JD.hold (HoldS.cells 18 lx12) ?_
      refine JD.t 18 Yld.lh ?_
      refine JD.rr 19 (.pointer r) ?_
      refine JD.t 20 (Yld.np na3) ?_
      refine JD.rr 21 (.pointer (some (a3.add 1))) ?_
      refine JD.hold (HoldS.cells 22 lx12) ?_
      refine JD.t 22 Yld.lh ?_
      refine JD.rr 23 (.int .i64 (IntKind.i64.wrap (x12 + 1))) ?_
      obtain ⟨q15, H⟩ := H
      refine JD.t 24 (Yld.ss x13 (some x12) (some (IntKind.i64.wrap (x12 + 1))) q15) ?_
      obtain ⟨q16, H⟩ := H
      refine JD.t 25 (Yld.cc ([97] : Str) (sub x13 x12 (IntKind.i64.wrap (x12 + 1))) q16) ?_
      have H := H hB.ltAll
      refine JD.o 26 (OpOk.c (CallH.mono H ?_ fun _ _ hx => hx))
      rintro _ h18 ⟨r17, rfl, hS, H⟩
      have hB := hB.same hS
      have hE := Ev.refl [p1] h18
      refine ⟨(HoldS.drop 22 26 (HoldS.drop 18 26 (HoldS.drop 14 26 (HoldS.drop 7 26 (HoldS.drop 3 26 HoldS.nil))))), ?_⟩
      refine JD.rr 27 (.bool r17) ?_
      refine JD.e ?_
      exact JK.inv r17 (Sub.of (by skip; (try rw [hc14]); first | done | kernel_rfl)) ⟨hB, H⟩
    · have H := H.2 (of_decide_eq_false hc14)
      refine JD.k 11 ?_
      refine JD.k 12 ?_
      refine JD.k 13 ?_
      refine JD.k 14 ?_
      refine JD.k 15 ?_
      refine JD.k 16 ?_
      refine JD.k 17 ?_
      refine JD.k 18 ?_
      refine JD.k 19 ?_
      refine JD.k 20 ?_
      refine JD.k 21 ?_
      refine JD.k 22 ?_
      refine JD.k 23 ?_
      refine JD.k 24 ?_
      refine JD.k 25 ?_
      refine JD.k 26 ?_
      refine JD.rr 27 (.bool false) ?_
      refine JD.e ?_
      exact JK.inv false (Sub.of (by skip; (try rw [hc14]); first | done | kernel_rfl)) ⟨hB, H⟩
  rintro s10 h11 ⟨hB, hk⟩
  have H := Hk9 s10 h11 hk
  have hE := Ev.refl [p1] h11
  refine JC.next ?_
  refine JC.cd s10 (fun hb => ?_) (fun hb => ?_)
  · have H := H.1 (hb)
    refine JC.skip (JC.next (JC.block (JC.region ?_)))
    refine JO.p 1 [(37, .pointer r)] ?_
    refine JO.y 1 (Yld.np na3) ?_
    refine JO.p 3 [(39, .pointer (some (a3.add 1)))] ?_
    obtain ⟨x19, lx19, H⟩ := H
    refine JO.y 3 (Yld.le lx19) ?_
    refine JO.p 5 [(41, .int .i64 (IntKind.i64.wrap (x19 + 1)))] ?_
    refine JO.y 5 (Yld.np na3) ?_
    refine JO.p 7 [(43, .pointer (some (a3.add 1)))] ?_
    obtain ⟨hs, H⟩ := H
    refine JO.s 7 (OpOk.st [.int .i64 (IntKind.i64.wrap (x19 + 1))] hs ?_)
    intro h20 hh
    obtain ⟨hS, H⟩ := H h20 hh
    have hB := hB.same hS
    have hE := Ev.refl [p1] h20
    refine JO.end_ ?_
    exact JK.inv () Sub.kk ⟨⟨hB, H.1⟩, H.2⟩
  · have H := H.2 (hb)
    refine JC.exit rfl ?_
    refine JC.next (JC.seq ?_)
    refine JC.rd 11 ?_
    refine JD.rr 0 (.pointer r) ?_
    refine JD.t 1 (Yld.np na3) ?_
    refine JD.rr 2 (.pointer (some (a3.add 0))) ?_
    obtain ⟨x21, lx21, H⟩ := H
    refine JD.hold (HoldS.cells 3 lx21) ?_
    refine JD.t 3 Yld.lh ?_
    refine JD.rr 4 (.int .i64 x4) ?_
    refine JD.rr 5 (.pointer r) ?_
    refine JD.t 6 (Yld.np na3) ?_
    refine JD.rr 7 (.pointer (some (a3.add 1))) ?_
    obtain ⟨x22, lx22, H⟩ := H
    refine JD.hold (HoldS.cells 8 lx22) ?_
    refine JD.t 8 Yld.lh ?_
    obtain ⟨q23, H⟩ := H
    refine JD.t 9 (Yld.ss x21 (some x4) (some x22) q23) ?_
    refine JD.rr 10 (.string (ba (sub x21 x4 x22))) ?_
    refine JD.e ?_
    refine JC.next ?_
    obtain ⟨k24, H, Hk24⟩ := H
    refine JC.join (S := Unit) (fun s25 => [(2, .pointer (some ⟨p1, 0, none⟩)), (4, .string (ba (sub x21 x4 x22)))]) (fun s25 h' => KeepB [(p1, .cells #[.int .i64 0, .int .i64 0, .string (ba ([] : Str)), sl (⟨none, 0, 0⟩ : Sl)] 24 (0, 0))] h' ∧ k24 s25 h') ?_ ?_
    · refine JC.seq (JC.region ?_)
      refine JO.p 1 [(54, .string (ba (sub x21 x4 x22)))] ?_
      have H := H hB.ltAll
      refine JO.s 1 (OpOk.c (CallH.mono H ?_ fun _ _ hx => hx))
      rintro _ h28 ⟨r27, rfl, hS, H⟩
      have hB := hB.same hS
      have hE := Ev.refl [p1] h28
      refine JO.p 3 [(56, .bool (!r27))] ?_
      refine JO.end_ (JC.next ?_)
      refine JC.cd (!r27) (fun hb => ?_) (fun hb => ?_)
      · have H := H.1 (hb)
        refine JC.region ?_
        refine JO.p 1 [(57, .pointer r)] ?_
        refine JO.y 1 (Yld.np na3) ?_
        refine JO.p 3 [(59, .pointer (some (a3.add 2)))] ?_
        obtain ⟨hs, H⟩ := H
        refine JO.s 3 (OpOk.st [.bool true] hs ?_)
        intro h29 hh
        obtain ⟨hS, H⟩ := H h29 hh
        have hB := hB.same hS
        have hE := Ev.refl [p1] h29
        refine JO.end_ ?_
        exact JK.inv () Sub.kk ⟨hB, H⟩
      · have H := H.2 (hb)
        refine JC.skip ?_
        exact JK.inv () Sub.kk ⟨hB, H⟩
    · rintro s25 h26 ⟨hB, hk⟩
      have H := Hk24 s25 h26 hk
      have hE := Ev.refl [p1] h26
      refine JC.seq (JC.region ?_)
      refine JO.p 2 [(61, .agg #[.int .i64 2, .int .i64 0, .string (ba (sub x21 x4 x22)), sl (⟨none, 0, 0⟩ : Sl)])] ?_
      refine JO.s 2 (OpOk.st [.int .i64 2, .int .i64 0, .string (ba (sub x21 x4 x22)), sl (⟨none, 0, 0⟩ : Sl)] (KeepB.st hB 0 0 4) ?_)
      intro h30 hh
      have hE := hE.set hh (by simp [add_block])
      have hB : KeepB [(p1, .cells #[.int .i64 2, .int .i64 0, .string (ba (sub x21 x4 x22)), sl (⟨none, 0, 0⟩ : Sl)] 24 (0, 0))] h30 := hB.set 0 rfl (off := 0) rfl hh
      refine JO.end_ (JC.next (JC.ret ?_))
      have H := H h30 hE
      have hE := Ev.refl [p1] h30
      exact JK.retG1 (.agg #[.int .i64 2, .int .i64 0, .string (ba (sub x21 x4 x22)), sl (⟨none, 0, 0⟩ : Sl)]) rfl (RVal.bN p1 24 hB 0) ⟨(⟨2, 0, sub x21 x4 x22, (⟨none, 0, 0⟩ : Sl)⟩ : V_api_Term), by kernel_rfl, H⟩

def F_tenureref05_reader_numbered.body (r : Option Addr) (kind : Int) (ahead : Str) (behind : Str) (h : Hp) (K : V_api_Term → Hp → Prop) (X : Chain → Hp → Prop) : Prop :=
∀ (p1 : Nat) (h2 : Hp), New p1 h h2 → Ev [p1] h h2 → (LtAll [p1] h2 → F_tenureref05_reader_eat.call r ahead h2 (fun (h3 : Hp) => SameOn [p1] h2 h3 ∧ (LtAll [p1] h3 → F_tenureref05_reader_number.call r 0 1073741824 h3 (fun (r4 : Int) (h5 : Hp) => SameOn [p1] h3 h5 ∧ (LtAll [p1] h5 → F_tenureref05_reader_eat.call r behind h5 (fun (h6 : Hp) => SameOn [p1] h5 h6 ∧ ∀ (h7 : Hp), Ev [p1] h6 h7 → K (⟨kind, r4, ([] : Str), (⟨none, 0, 0⟩ : Sl)⟩ : V_api_Term) h7) X)) X)) X)
theorem F_tenureref05_reader_numbered.sound {r : Option Addr} {kind : Int} {ahead : Str} {behind : Str} {h : Hp} {K : V_api_Term → Hp → Prop} {X : Chain → Hp → Prop} (H : F_tenureref05_reader_numbered.body r kind ahead behind h K X) : F_tenureref05_reader_numbered.call r kind ahead behind h K X := by
  unfold F_tenureref05_reader_numbered.body at H
  refine CallH.of Tryz.func79 rfl rfl fun w0 hw0 => ?_
  refine JC.seq (JC.region ?_)
  refine JO.s 0 (OpOk.bp [.int .i64 0, .int .i64 0, .string (ba ([] : Str)), sl (⟨none, 0, 0⟩ : Sl)] 24 ?_)
  intro p1 h2 hp hh
  have hE := Ev.refl [] h
  have hB := KeepB.nil h
  have hNp1 : Array.size h ≤ p1 := hp ▸ hE.size
  have hB : KeepB [(p1, .cells #[.int .i64 0, .int .i64 0, .string (ba ([] : Str)), sl (⟨none, 0, 0⟩ : Sl)] 24 (0, 0))] h2 := hB.push hp hh
  have hE := hE.push hp hh
  refine JO.end_ (JC.next (JC.seq (JC.region ?_)))
  refine JO.p 2 [(10, .pointer r), (11, .string (ba ahead))] ?_
  have H := H p1 h2 ⟨hNp1, hB.l 0⟩ hE
  have hE := Ev.refl [p1] h2
  have H := H hB.ltAll
  refine JO.s 2 (OpOk.c (CallH.mono H ?_ fun _ _ hx => hx))
  rintro _ h3 ⟨rfl, hS, H⟩
  have hB := hB.same hS
  have hE := Ev.refl [p1] h3
  refine JO.end_ (JC.next (JC.seq (JC.region ?_)))
  refine JO.p 1 [(13, .pointer r)] ?_
  have H := H hB.ltAll
  refine JO.s 1 (OpOk.c (CallH.mono H ?_ fun _ _ hx => hx))
  rintro _ h5 ⟨r4, rfl, hS, H⟩
  have hB := hB.same hS
  have hE := Ev.refl [p1] h5
  refine JO.p 3 [(9, .int .i64 r4)] ?_
  refine JO.end_ (JC.next (JC.seq (JC.region ?_)))
  refine JO.p 2 [(15, .pointer r), (16, .string (ba behind))] ?_
  have H := H hB.ltAll
  refine JO.s 2 (OpOk.c (CallH.mono H ?_ fun _ _ hx => hx))
  rintro _ h6 ⟨rfl, hS, H⟩
  have hB := hB.same hS
  have hE := Ev.refl [p1] h6
  refine JO.end_ (JC.next (JC.seq (JC.region ?_)))
  refine JO.p 3 [(20, .agg #[.int .i64 kind, .int .i64 r4, .string (ba ([] : Str)), sl (⟨none, 0, 0⟩ : Sl)])] ?_
  refine JO.s 3 (OpOk.st [.int .i64 kind, .int .i64 r4, .string (ba ([] : Str)), sl (⟨none, 0, 0⟩ : Sl)] (KeepB.st hB 0 0 4) ?_)
  intro h7 hh
  have hE := hE.set hh (by simp [add_block])
  have hB : KeepB [(p1, .cells #[.int .i64 kind, .int .i64 r4, .string (ba ([] : Str)), sl (⟨none, 0, 0⟩ : Sl)] 24 (0, 0))] h7 := hB.set 0 rfl (off := 0) rfl hh
  refine JO.end_ (JC.next (JC.ret ?_))
  have H := H h7 hE
  have hE := Ev.refl [p1] h7
  exact JK.retG1 (.agg #[.int .i64 kind, .int .i64 r4, .string (ba ([] : Str)), sl (⟨none, 0, 0⟩ : Sl)]) rfl (RVal.bN p1 24 hB 0) ⟨(⟨kind, r4, ([] : Str), (⟨none, 0, 0⟩ : Sl)⟩ : V_api_Term), by kernel_rfl, H⟩

def F_tenureref05_reader_starts.body (r : Option Addr) (s : Str) (h : Hp) (K : Bool → Hp → Prop) (X : Chain → Hp → Prop) : Prop :=
NilW r (fun (a1 : Addr) => LoadW h (a1.add 2) cB (fun (x2 : Bool) => LoadG ((!x2) = true) h (a1.add 0) cS (fun (x3 : Str) => LoadG ((!x2) = true) h (a1.add 1) (cI .i64) (fun (x4 : Int) => LoadG (((!x2) && (decide ((IntKind.i64.wrap ((x3.length : Int) - x4)) ≥ (s.length : Int)))) = true) h (a1.add 0) cS (fun (x5 : Str) => LoadG (((!x2) && (decide ((IntKind.i64.wrap ((x3.length : Int) - x4)) ≥ (s.length : Int)))) = true) h (a1.add 1) (cI .i64) (fun (x6 : Int) => ((((!x2) && (decide ((IntKind.i64.wrap ((x3.length : Int) - x4)) ≥ (s.length : Int)))) = true) → 0 ≤ x6 ∧ x6 ≤ (IntKind.i64.wrap (x6 + (s.length : Int))) ∧ (IntKind.i64.wrap (x6 + (s.length : Int))) ≤ (x5.length : Int)) ∧ K (((!x2) && (decide ((IntKind.i64.wrap ((x3.length : Int) - x4)) ≥ (s.length : Int)))) && (cmpS .eql (sub x5 x6 (IntKind.i64.wrap (x6 + (s.length : Int)))) s)) h))))))
theorem F_tenureref05_reader_starts.sound {r : Option Addr} {s : Str} {h : Hp} {K : Bool → Hp → Prop} {X : Chain → Hp → Prop} (H : F_tenureref05_reader_starts.body r s h K X) : F_tenureref05_reader_starts.call r s h K X := by
  unfold F_tenureref05_reader_starts.body at H
  refine CallH.of Tryz.func80 rfl rfl fun w0 hw0 => ?_
  refine JC.seq (JC.region ?_)
  refine JO.p 1 [(4, .bool false)] ?_
  refine JO.end_ (JC.next (JC.seq ?_))
  obtain ⟨a1, na1, H⟩ := H
  obtain ⟨x2, lx2, H⟩ := H
  obtain ⟨x3, lx3, H⟩ := H
  obtain ⟨x4, lx4, H⟩ := H
  obtain ⟨x5, lx5, H⟩ := H
  obtain ⟨x6, lx6, H⟩ := H
  obtain ⟨q7, H⟩ := H
  refine JC.viaQ [(4, .bool (((!x2) && (decide ((IntKind.i64.wrap ((x3.length : Int) - x4)) ≥ (s.length : Int)))) && (cmpS .eql (sub x5 x6 (IntKind.i64.wrap (x6 + (s.length : Int)))) s)))] ?_ ?_
  · refine JC.rd 41 ?_
    refine JD.rr 0 (.pointer r) ?_
    refine JD.t 1 (Yld.np na1) ?_
    refine JD.rr 2 (.pointer (some (a1.add 2))) ?_
    refine JD.hold (HoldS.cells 3 lx2) ?_
    refine JD.t 3 Yld.lh ?_
    refine JD.rr 4 (.bool (!x2)) ?_
    refine JD.rr 5 (.bool (!x2)) ?_
    refine JD.cs 10 (!x2) (fun hc8 => ?_) (fun hc8 => ?_)
    · refine JD.rr 6 (.pointer r) ?_
      refine JD.t 7 (Yld.np na1) ?_
      refine JD.rr 8 (.pointer (some (a1.add 0))) ?_
      refine JD.hold (HoldS.cells 9 (lx3 (hc8))) ?_
      refine JD.t 9 Yld.lh ?_
      refine JD.rr 10 (.int .i64 (x3.length : Int)) ?_
      refine JD.rr 11 (.pointer r) ?_
      refine JD.t 12 (Yld.np na1) ?_
      refine JD.rr 13 (.pointer (some (a1.add 1))) ?_
      refine JD.hold (HoldS.cells 14 (lx4 (hc8))) ?_
      refine JD.t 14 Yld.lh ?_
      refine JD.rr 15 (.int .i64 (IntKind.i64.wrap ((x3.length : Int) - x4))) ?_
      refine JD.rr 16 (.string (ba s)) ?_
      refine JD.rr 17 (.int .i64 (s.length : Int)) ?_
      refine JD.rr 18 (.bool (decide ((IntKind.i64.wrap ((x3.length : Int) - x4)) ≥ (s.length : Int)))) ?_
      refine JD.rr 19 (.bool (decide ((IntKind.i64.wrap ((x3.length : Int) - x4)) ≥ (s.length : Int)))) ?_
      refine JD.rr 20 (.bool (decide ((IntKind.i64.wrap ((x3.length : Int) - x4)) ≥ (s.length : Int)))) ?_
      refine JD.cs 25 (decide ((IntKind.i64.wrap ((x3.length : Int) - x4)) ≥ (s.length : Int))) (fun hc9 => ?_) (fun hc9 => ?_)
      · refine JD.rr 21 (.pointer r) ?_
        refine JD.t 22 (Yld.np na1) ?_
        refine JD.rr 23 (.pointer (some (a1.add 0))) ?_
        refine JD.hold (HoldS.cells 24 (lx5 ((show ((!x2) && (decide ((IntKind.i64.wrap ((x3.length : Int) - x4)) ≥ (s.length : Int)))) = true by (try rw [hc8]); (try rw [hc9]); first | done | rfl)))) ?_
        refine JD.t 24 Yld.lh ?_
        refine JD.rr 25 (.pointer r) ?_
        refine JD.t 26 (Yld.np na1) ?_
        refine JD.rr 27 (.pointer (some (a1.add 1))) ?_
        refine JD.hold (HoldS.cells 28 (lx6 ((show ((!x2) && (decide ((IntKind.i64.wrap ((x3.length : Int) - x4)) ≥ (s.length : Int)))) = true by (try rw [hc8]); (try rw [hc9]); first | done | rfl)))) ?_
        refine JD.t 28 Yld.lh ?_
        refine JD.rr 29 (.pointer r) ?_
        refine JD.t 30 (Yld.np na1) ?_
        refine JD.rr 31 (.pointer (some (a1.add 1))) ?_
        refine JD.hold (HoldS.cells 32 (lx6 ((show ((!x2) && (decide ((IntKind.i64.wrap ((x3.length : Int) - x4)) ≥ (s.length : Int)))) = true by (try rw [hc8]); (try rw [hc9]); first | done | rfl)))) ?_
        refine JD.t 32 Yld.lh ?_
        refine JD.rr 33 (.string (ba s)) ?_
        refine JD.rr 34 (.int .i64 (s.length : Int)) ?_
        refine JD.rr 35 (.int .i64 (IntKind.i64.wrap (x6 + (s.length : Int)))) ?_
        refine JD.t 36 (Yld.ss x5 (some x6) (some (IntKind.i64.wrap (x6 + (s.length : Int)))) (q7 ((show ((!x2) && (decide ((IntKind.i64.wrap ((x3.length : Int) - x4)) ≥ (s.length : Int)))) = true by (try rw [hc8]); (try rw [hc9]); first | done | rfl)))) ?_
        refine JD.rr 37 (.string (ba s)) ?_
        refine JD.t 38 (Yld.cp .eql (sub x5 x6 (IntKind.i64.wrap (x6 + (s.length : Int)))) s) ?_
        refine JD.rr 39 (.bool (cmpS .eql (sub x5 x6 (IntKind.i64.wrap (x6 + (s.length : Int)))) s)) ?_
        refine JD.rr 40 (.bool (cmpS .eql (sub x5 x6 (IntKind.i64.wrap (x6 + (s.length : Int)))) s)) ?_
        refine JD.e ?_
        exact JK.invQ (Sub.of (by skip; (try rw [hc8]); (try rw [hc9]); first | done | kernel_rfl))
      · refine JD.k 21 ?_
        refine JD.k 22 ?_
        refine JD.k 23 ?_
        refine JD.k 24 ?_
        refine JD.k 25 ?_
        refine JD.k 26 ?_
        refine JD.k 27 ?_
        refine JD.k 28 ?_
        refine JD.k 29 ?_
        refine JD.k 30 ?_
        refine JD.k 31 ?_
        refine JD.k 32 ?_
        refine JD.k 33 ?_
        refine JD.k 34 ?_
        refine JD.k 35 ?_
        refine JD.k 36 ?_
        refine JD.k 37 ?_
        refine JD.k 38 ?_
        refine JD.rr 39 (.bool false) ?_
        refine JD.rr 40 (.bool false) ?_
        refine JD.e ?_
        exact JK.invQ (Sub.of (by skip; (try rw [hc8]); (try rw [hc9]); first | done | kernel_rfl))
    · refine JD.k 6 ?_
      refine JD.k 7 ?_
      refine JD.k 8 ?_
      refine JD.k 9 ?_
      refine JD.k 10 ?_
      refine JD.k 11 ?_
      refine JD.k 12 ?_
      refine JD.k 13 ?_
      refine JD.k 14 ?_
      refine JD.k 15 ?_
      refine JD.k 16 ?_
      refine JD.k 17 ?_
      refine JD.k 18 ?_
      refine JD.rr 19 (.bool false) ?_
      refine JD.rr 20 (.bool false) ?_
      refine JD.k 21 ?_
      refine JD.k 22 ?_
      refine JD.k 23 ?_
      refine JD.k 24 ?_
      refine JD.k 25 ?_
      refine JD.k 26 ?_
      refine JD.k 27 ?_
      refine JD.k 28 ?_
      refine JD.k 29 ?_
      refine JD.k 30 ?_
      refine JD.k 31 ?_
      refine JD.k 32 ?_
      refine JD.k 33 ?_
      refine JD.k 34 ?_
      refine JD.k 35 ?_
      refine JD.k 36 ?_
      refine JD.k 37 ?_
      refine JD.k 38 ?_
      refine JD.rr 39 (.bool false) ?_
      refine JD.rr 40 (.bool false) ?_
      refine JD.e ?_
      exact JK.invQ (Sub.of (by skip; (try rw [hc8]); first | done | kernel_rfl))
  refine JC.next (JC.ret ?_)
  exact JK.retG1 (.bool (((!x2) && (decide ((IntKind.i64.wrap ((x3.length : Int) - x4)) ≥ (s.length : Int)))) && (cmpS .eql (sub x5 x6 (IntKind.i64.wrap (x6 + (s.length : Int)))) s))) rfl RVal.s ⟨((!x2) && (decide ((IntKind.i64.wrap ((x3.length : Int) - x4)) ≥ (s.length : Int)))) && (cmpS .eql (sub x5 x6 (IntKind.i64.wrap (x6 + (s.length : Int)))) s), by kernel_rfl, H⟩

def F_tenureref05_reader_fun.body (r : Option Addr) (h : Hp) (K : V_api_Term → Hp → Prop) (X : Chain → Hp → Prop) : Prop :=
∀ (p1 : Nat) (h2 : Hp), New p1 h h2 → Ev [p1] h h2 → (LtAll [p1] h2 → F_tenureref05_reader_eat.call r ([35, 70, 117, 110, 60] : Str) h2 (fun (h3 : Hp) => SameOn [p1] h2 h3 ∧ (LtAll [p1] h3 → F_tenureref05_reader_number.call r 0 1073741824 h3 (fun (r4 : Int) (h5 : Hp) => SameOn [p1] h3 h5 ∧ ∀ (p6 : Nat) (h8 : Hp), New p6 h5 h8 → Ev [p6, p1] h5 h8 → (LtAll [p6, p1] h8 → F_tenureref05_reader_starts.call r ([44] : Str) h8 (fun (r9 : Bool) (h10 : Hp) => SameOn [p6, p1] h8 h10 ∧ (r9 = true → (LtAll [p6, p1] h10 → F_tenureref05_reader_eat.call r ([44] : Str) h10 (fun (h11 : Hp) => SameOn [p6, p1] h10 h11 ∧ (LtAll [p6, p1] h11 → F_tenureref05_reader_among.call r ([62] : Str) h11 (fun (r12 : Sl) (h13 : Hp) => SameOn [p6, p1] h11 h13 ∧ ∀ (h14 : Hp), Ev [p6, p1] h13 h14 → JoinW (fun (k15 : Unit → Hp → Prop) =>
(((r12.len : Int) == 0) = true → NilW r (fun (a18 : Addr) => StoreW h14 (a18.add 2) [.bool true] (fun (h19 : Hp) => SameOn [p6, p1] h14 h19 ∧ k15 () h19))) ∧
(((r12.len : Int) == 0) = false → k15 () h14)) (fun (s16 : Unit) h17 =>
∀ (h20 : Hp), Ev [p6, p1] h17 h20 → K (⟨5, r4, ([] : Str), r12⟩ : V_api_Term) h20)) X)) X)) ∧
(r9 = false → (LtAll [p6, p1] h10 → F_tenureref05_reader_eat.call r ([62] : Str) h10 (fun (h21 : Hp) => SameOn [p6, p1] h10 h21 ∧ ∀ (h22 : Hp), Ev [p6, p1] h21 h22 → K (⟨5, r4, ([] : Str), (⟨none, 0, 0⟩ : Sl)⟩ : V_api_Term) h22) X))) X)) X)) X)
theorem F_tenureref05_reader_fun.sound {r : Option Addr} {h : Hp} {K : V_api_Term → Hp → Prop} {X : Chain → Hp → Prop} (H : F_tenureref05_reader_fun.body r h K X) : F_tenureref05_reader_fun.call r h K X := by
  unfold F_tenureref05_reader_fun.body at H
  refine CallH.of Tryz.func81 rfl rfl fun w0 hw0 => ?_
  refine JC.seq (JC.region ?_)
  refine JO.s 0 (OpOk.bp [.int .i64 0, .int .i64 0, .string (ba ([] : Str)), sl (⟨none, 0, 0⟩ : Sl)] 24 ?_)
  intro p1 h2 hp hh
  have hE := Ev.refl [] h
  have hB := KeepB.nil h
  have hNp1 : Array.size h ≤ p1 := hp ▸ hE.size
  have hB : KeepB [(p1, .cells #[.int .i64 0, .int .i64 0, .string (ba ([] : Str)), sl (⟨none, 0, 0⟩ : Sl)] 24 (0, 0))] h2 := hB.push hp hh
  have hE := hE.push hp hh
  refine JO.end_ (JC.next (JC.seq (JC.region ?_)))
  refine JO.p 1 [(4, .pointer r)] ?_
  have H := H p1 h2 ⟨hNp1, hB.l 0⟩ hE
  have hE := Ev.refl [p1] h2
  have H := H hB.ltAll
  refine JO.s 1 (OpOk.c (CallH.mono H ?_ fun _ _ hx => hx))
  rintro _ h3 ⟨rfl, hS, H⟩
  have hB := hB.same hS
  have hE := Ev.refl [p1] h3
  refine JO.end_ (JC.next (JC.seq (JC.region ?_)))
  refine JO.p 1 [(6, .pointer r)] ?_
  have H := H hB.ltAll
  refine JO.s 1 (OpOk.c (CallH.mono H ?_ fun _ _ hx => hx))
  rintro _ h5 ⟨r4, rfl, hS, H⟩
  have hB := hB.same hS
  have hE := Ev.refl [p1] h5
  refine JO.p 3 [(8, .agg #[.int .i64 5, .int .i64 r4, .string (ba ([] : Str)), sl (⟨none, 0, 0⟩ : Sl)])] ?_
  refine JO.s 3 (OpOk.bp [.int .i64 0, .int .i64 0, .string (ba ([] : Str)), sl (⟨none, 0, 0⟩ : Sl)] 24 ?_)
  intro p6 h7 hp hh
  have hNp6 : Array.size h5 ≤ p6 := hp ▸ hE.size
  have hB : KeepB [(p6, .cells #[.int .i64 0, .int .i64 0, .string (ba ([] : Str)), sl (⟨none, 0, 0⟩ : Sl)] 24 (0, 0)), (p1, .cells #[.int .i64 0, .int .i64 0, .string (ba ([] : Str)), sl (⟨none, 0, 0⟩ : Sl)] 24 (0, 0))] h7 := hB.push hp hh
  have hE := hE.push hp hh
  refine JO.s 4 (OpOk.st [.int .i64 5, .int .i64 r4, .string (ba ([] : Str)), sl (⟨none, 0, 0⟩ : Sl)] (KeepB.st hB 0 0 4) ?_)
  intro h8 hh
  have hE := hE.set hh (by simp [add_block])
  have hB : KeepB [(p6, .cells #[.int .i64 5, .int .i64 r4, .string (ba ([] : Str)), sl (⟨none, 0, 0⟩ : Sl)] 24 (0, 0)), (p1, .cells #[.int .i64 0, .int .i64 0, .string (ba ([] : Str)), sl (⟨none, 0, 0⟩ : Sl)] 24 (0, 0))] h8 := hB.set 0 rfl (off := 0) rfl hh
  refine JO.end_ (JC.next (JC.seq (JC.seq (JC.region ?_))))
  refine JO.p 1 [(9, .pointer r)] ?_
  have H := H p6 h8 ⟨hNp6, hB.l 0⟩ hE
  have hE := Ev.refl [p6, p1] h8
  have H := H hB.ltAll
  refine JO.s 1 (OpOk.c (CallH.mono H ?_ fun _ _ hx => hx))
  rintro _ h10 ⟨r9, rfl, hS, H⟩
  have hB := hB.same hS
  have hE := Ev.refl [p6, p1] h10
  refine JO.end_ (JC.next ?_)
  refine JC.cd r9 (fun hb => ?_) (fun hb => ?_)
  · have H := H.1 (hb)
    refine JC.seq (JC.region ?_)
    refine JO.p 1 [(11, .pointer r)] ?_
    have H := H hB.ltAll
    refine JO.s 1 (OpOk.c (CallH.mono H ?_ fun _ _ hx => hx))
    rintro _ h11 ⟨rfl, hS, H⟩
    have hB := hB.same hS
    have hE := Ev.refl [p6, p1] h11
    refine JO.end_ (JC.next (JC.seq (JC.region ?_)))
    refine JO.p 1 [(13, .pointer r)] ?_
    have H := H hB.ltAll
    refine JO.s 1 (OpOk.c (CallH.mono H ?_ fun _ _ hx => hx))
    rintro _ h13 ⟨r12, rfl, hS, H⟩
    have hB := hB.same hS
    have hE := Ev.refl [p6, p1] h13
    refine JO.p 3 [(15, .pointer (some ((⟨p6, 0, none⟩ : Addr).add 3)))] ?_
    refine JO.s 3 (OpOk.st [sl r12] (KeepB.st hB 0 3 1) ?_)
    intro h14 hh
    have hE := hE.set hh (by simp [add_block])
    have hB : KeepB [(p6, .cells #[.int .i64 5, .int .i64 r4, .string (ba ([] : Str)), sl r12] 24 (0, 0)), (p1, .cells #[.int .i64 0, .int .i64 0, .string (ba ([] : Str)), sl (⟨none, 0, 0⟩ : Sl)] 24 (0, 0))] h14 := hB.set 0 rfl (off := 3) rfl hh
    refine JO.end_ (JC.next ?_)
    have H := H h14 hE
    have hE := Ev.refl [p6, p1] h14
    obtain ⟨k15, H, Hk15⟩ := H
    refine JC.join (S := Unit) (fun s16 => [(2, .pointer (some ⟨p1, 0, none⟩)), (3, .pointer (some ⟨p6, 0, none⟩))]) (fun s16 h' => KeepB [(p6, .cells #[.int .i64 5, .int .i64 r4, .string (ba ([] : Str)), sl r12] 24 (0, 0)), (p1, .cells #[.int .i64 0, .int .i64 0, .string (ba ([] : Str)), sl (⟨none, 0, 0⟩ : Sl)] 24 (0, 0))] h' ∧ k15 s16 h') ?_ ?_
    · refine JC.seq (JC.region ?_)
      refine JO.p 1 [(16, .pointer (some ((⟨p6, 0, none⟩ : Addr).add 3)))] ?_
      refine JO.y 1 (Yld.le (KeepB.c hB 0 3 [sl r12])) ?_
      refine JO.p 4 [(19, .bool ((r12.len : Int) == 0))] ?_
      refine JO.end_ (JC.next ?_)
      refine JC.cd ((r12.len : Int) == 0) (fun hb => ?_) (fun hb => ?_)
      · have H := H.1 (hb)
        refine JC.region ?_
        refine JO.p 1 [(20, .pointer r)] ?_
        obtain ⟨a18, na18, H⟩ := H
        refine JO.y 1 (Yld.np na18) ?_
        refine JO.p 3 [(22, .pointer (some (a18.add 2)))] ?_
        obtain ⟨hs, H⟩ := H
        refine JO.s 3 (OpOk.st [.bool true] hs ?_)
        intro h19 hh
        obtain ⟨hS, H⟩ := H h19 hh
        have hB := hB.same hS
        have hE := Ev.refl [p6, p1] h19
        refine JO.end_ ?_
        exact JK.inv () Sub.kk ⟨hB, H⟩
      · have H := H.2 (hb)
        refine JC.skip ?_
        exact JK.inv () Sub.kk ⟨hB, H⟩
    · rintro s16 h17 ⟨hB, hk⟩
      have H := Hk15 s16 h17 hk
      have hE := Ev.refl [p6, p1] h17
      refine JC.seq (JC.region ?_)
      refine JO.y 0 (Yld.lne (KeepB.c hB 0 0 [.int .i64 5, .int .i64 r4, .string (ba ([] : Str)), sl r12])) ?_
      refine JO.s 1 (OpOk.st [.int .i64 5, .int .i64 r4, .string (ba ([] : Str)), sl r12] (KeepB.st hB 1 0 4) ?_)
      intro h20 hh
      have hE := hE.set hh (by simp [add_block])
      have hB : KeepB [(p6, .cells #[.int .i64 5, .int .i64 r4, .string (ba ([] : Str)), sl r12] 24 (0, 0)), (p1, .cells #[.int .i64 5, .int .i64 r4, .string (ba ([] : Str)), sl r12] 24 (0, 0))] h20 := hB.set 1 rfl (off := 0) rfl hh
      refine JO.end_ (JC.next (JC.ret ?_))
      have H := H h20 hE
      have hE := Ev.refl [p6, p1] h20
      exact JK.retG1 (.agg #[.int .i64 5, .int .i64 r4, .string (ba ([] : Str)), sl r12]) rfl (RVal.bN p1 24 hB 1) ⟨(⟨5, r4, ([] : Str), r12⟩ : V_api_Term), by kernel_rfl, H⟩
  · have H := H.2 (hb)
    refine JC.skip (JC.next (JC.seq (JC.region ?_)))
    refine JO.p 1 [(24, .pointer r)] ?_
    have H := H hB.ltAll
    refine JO.s 1 (OpOk.c (CallH.mono H ?_ fun _ _ hx => hx))
    rintro _ h21 ⟨rfl, hS, H⟩
    have hB := hB.same hS
    have hE := Ev.refl [p6, p1] h21
    refine JO.end_ (JC.next (JC.seq (JC.region ?_)))
    refine JO.y 0 (Yld.lne (KeepB.c hB 0 0 [.int .i64 5, .int .i64 r4, .string (ba ([] : Str)), sl (⟨none, 0, 0⟩ : Sl)])) ?_
    refine JO.s 1 (OpOk.st [.int .i64 5, .int .i64 r4, .string (ba ([] : Str)), sl (⟨none, 0, 0⟩ : Sl)] (KeepB.st hB 1 0 4) ?_)
    intro h22 hh
    have hE := hE.set hh (by simp [add_block])
    have hB : KeepB [(p6, .cells #[.int .i64 5, .int .i64 r4, .string (ba ([] : Str)), sl (⟨none, 0, 0⟩ : Sl)] 24 (0, 0)), (p1, .cells #[.int .i64 5, .int .i64 r4, .string (ba ([] : Str)), sl (⟨none, 0, 0⟩ : Sl)] 24 (0, 0))] h22 := hB.set 1 rfl (off := 0) rfl hh
    refine JO.end_ (JC.next (JC.ret ?_))
    have H := H h22 hE
    have hE := Ev.refl [p6, p1] h22
    exact JK.retG1 (.agg #[.int .i64 5, .int .i64 r4, .string (ba ([] : Str)), sl (⟨none, 0, 0⟩ : Sl)]) rfl (RVal.bN p1 24 hB 1) ⟨(⟨5, r4, ([] : Str), (⟨none, 0, 0⟩ : Sl)⟩ : V_api_Term), by kernel_rfl, H⟩

def F_tenureref05_reader_eat.body (r : Option Addr) (s : Str) (h : Hp) (K : Hp → Prop) (X : Chain → Hp → Prop) : Prop :=
NilW r (fun (a1 : Addr) => LoadW h (a1.add 2) cB (fun (x2 : Bool) => LoadG (x2 = false) h (a1.add 0) cS (fun (x3 : Str) => LoadG (x2 = false) h (a1.add 1) (cI .i64) (fun (x4 : Int) => LoadG ((x2 || (decide ((IntKind.i64.wrap ((x3.length : Int) - x4)) < (s.length : Int)))) = false) h (a1.add 0) cS (fun (x5 : Str) => LoadG ((x2 || (decide ((IntKind.i64.wrap ((x3.length : Int) - x4)) < (s.length : Int)))) = false) h (a1.add 1) (cI .i64) (fun (x6 : Int) => (((x2 || (decide ((IntKind.i64.wrap ((x3.length : Int) - x4)) < (s.length : Int)))) = false) → 0 ≤ x6 ∧ x6 ≤ (IntKind.i64.wrap (x6 + (s.length : Int))) ∧ (IntKind.i64.wrap (x6 + (s.length : Int))) ≤ (x5.length : Int)) ∧ (((x2 || (decide ((IntKind.i64.wrap ((x3.length : Int) - x4)) < (s.length : Int)))) || (cmpS .neq (sub x5 x6 (IntKind.i64.wrap (x6 + (s.length : Int)))) s)) = true → StoreW h (a1.add 2) [.bool true] (fun (h10 : Hp) => K h10)) ∧
(((x2 || (decide ((IntKind.i64.wrap ((x3.length : Int) - x4)) < (s.length : Int)))) || (cmpS .neq (sub x5 x6 (IntKind.i64.wrap (x6 + (s.length : Int)))) s)) = false → LoadW h (a1.add 1) (cI .i64) (fun (x11 : Int) => StoreW h (a1.add 1) [.int .i64 (IntKind.i64.wrap (x11 + (s.length : Int)))] (fun (h12 : Hp) => K h12)))))))))
theorem F_tenureref05_reader_eat.sound {r : Option Addr} {s : Str} {h : Hp} {K : Hp → Prop} {X : Chain → Hp → Prop} (H : F_tenureref05_reader_eat.body r s h K X) : F_tenureref05_reader_eat.call r s h K X := by
  unfold F_tenureref05_reader_eat.body at H
  refine CallH.of Tryz.func82 rfl rfl fun w0 hw0 => ?_
  refine JC.seq (JC.seq ?_)
  obtain ⟨a1, na1, H⟩ := H
  obtain ⟨x2, lx2, H⟩ := H
  obtain ⟨x3, lx3, H⟩ := H
  obtain ⟨x4, lx4, H⟩ := H
  obtain ⟨x5, lx5, H⟩ := H
  obtain ⟨x6, lx6, H⟩ := H
  obtain ⟨q7, H⟩ := H
  refine JC.viaQ [(0, .pointer r), (1, .string (ba s)), (42, .bool ((x2 || (decide ((IntKind.i64.wrap ((x3.length : Int) - x4)) < (s.length : Int)))) || (cmpS .neq (sub x5 x6 (IntKind.i64.wrap (x6 + (s.length : Int)))) s)))] ?_ ?_
  · refine JC.rd 39 ?_
    refine JD.rr 0 (.pointer r) ?_
    refine JD.t 1 (Yld.np na1) ?_
    refine JD.rr 2 (.pointer (some (a1.add 2))) ?_
    refine JD.hold (HoldS.cells 3 lx2) ?_
    refine JD.t 3 Yld.lh ?_
    refine JD.rr 4 (.bool x2) ?_
    refine JD.cs 8 x2 (fun hc8 => ?_) (fun hc8 => ?_)
    · refine JD.k 5 ?_
      refine JD.k 6 ?_
      refine JD.k 7 ?_
      refine JD.k 8 ?_
      refine JD.k 9 ?_
      refine JD.k 10 ?_
      refine JD.k 11 ?_
      refine JD.k 12 ?_
      refine JD.k 13 ?_
      refine JD.k 14 ?_
      refine JD.k 15 ?_
      refine JD.k 16 ?_
      refine JD.k 17 ?_
      refine JD.rr 18 (.bool true) ?_
      refine JD.rr 19 (.bool true) ?_
      refine JD.k 20 ?_
      refine JD.k 21 ?_
      refine JD.k 22 ?_
      refine JD.k 23 ?_
      refine JD.k 24 ?_
      refine JD.k 25 ?_
      refine JD.k 26 ?_
      refine JD.k 27 ?_
      refine JD.k 28 ?_
      refine JD.k 29 ?_
      refine JD.k 30 ?_
      refine JD.k 31 ?_
      refine JD.k 32 ?_
      refine JD.k 33 ?_
      refine JD.k 34 ?_
      refine JD.k 35 ?_
      refine JD.k 36 ?_
      refine JD.k 37 ?_
      refine JD.rr 38 (.bool true) ?_
      refine JD.e ?_
      exact JK.invQ (Sub.of (by skip; (try rw [hc8]); first | done | kernel_rfl))
    · refine JD.rr 5 (.pointer r) ?_
      refine JD.t 6 (Yld.np na1) ?_
      refine JD.rr 7 (.pointer (some (a1.add 0))) ?_
      refine JD.hold (HoldS.cells 8 (lx3 (hc8))) ?_
      refine JD.t 8 Yld.lh ?_
      refine JD.rr 9 (.int .i64 (x3.length : Int)) ?_
      refine JD.rr 10 (.pointer r) ?_
      refine JD.t 11 (Yld.np na1) ?_
      refine JD.rr 12 (.pointer (some (a1.add 1))) ?_
      refine JD.hold (HoldS.cells 13 (lx4 (hc8))) ?_
      refine JD.t 13 Yld.lh ?_
      refine JD.rr 14 (.int .i64 (IntKind.i64.wrap ((x3.length : Int) - x4))) ?_
      refine JD.rr 15 (.string (ba s)) ?_
      refine JD.rr 16 (.int .i64 (s.length : Int)) ?_
      refine JD.rr 17 (.bool (decide ((IntKind.i64.wrap ((x3.length : Int) - x4)) < (s.length : Int)))) ?_
      refine JD.rr 18 (.bool (decide ((IntKind.i64.wrap ((x3.length : Int) - x4)) < (s.length : Int)))) ?_
      refine JD.rr 19 (.bool (decide ((IntKind.i64.wrap ((x3.length : Int) - x4)) < (s.length : Int)))) ?_
      refine JD.cs 23 (decide ((IntKind.i64.wrap ((x3.length : Int) - x4)) < (s.length : Int))) (fun hc9 => ?_) (fun hc9 => ?_)
      · refine JD.k 20 ?_
        refine JD.k 21 ?_
        refine JD.k 22 ?_
        refine JD.k 23 ?_
        refine JD.k 24 ?_
        refine JD.k 25 ?_
        refine JD.k 26 ?_
        refine JD.k 27 ?_
        refine JD.k 28 ?_
        refine JD.k 29 ?_
        refine JD.k 30 ?_
        refine JD.k 31 ?_
        refine JD.k 32 ?_
        refine JD.k 33 ?_
        refine JD.k 34 ?_
        refine JD.k 35 ?_
        refine JD.k 36 ?_
        refine JD.k 37 ?_
        refine JD.rr 38 (.bool true) ?_
        refine JD.e ?_
        exact JK.invQ (Sub.of (by skip; (try rw [hc8]); (try rw [hc9]); first | done | kernel_rfl))
      · refine JD.rr 20 (.pointer r) ?_
        refine JD.t 21 (Yld.np na1) ?_
        refine JD.rr 22 (.pointer (some (a1.add 0))) ?_
        refine JD.hold (HoldS.cells 23 (lx5 ((show (x2 || (decide ((IntKind.i64.wrap ((x3.length : Int) - x4)) < (s.length : Int)))) = false by (try rw [hc8]); (try rw [hc9]); first | done | rfl)))) ?_
        refine JD.t 23 Yld.lh ?_
        refine JD.rr 24 (.pointer r) ?_
        refine JD.t 25 (Yld.np na1) ?_
        refine JD.rr 26 (.pointer (some (a1.add 1))) ?_
        refine JD.hold (HoldS.cells 27 (lx6 ((show (x2 || (decide ((IntKind.i64.wrap ((x3.length : Int) - x4)) < (s.length : Int)))) = false by (try rw [hc8]); (try rw [hc9]); first | done | rfl)))) ?_
        refine JD.t 27 Yld.lh ?_
        refine JD.rr 28 (.pointer r) ?_
        refine JD.t 29 (Yld.np na1) ?_
        refine JD.rr 30 (.pointer (some (a1.add 1))) ?_
        refine JD.hold (HoldS.cells 31 (lx6 ((show (x2 || (decide ((IntKind.i64.wrap ((x3.length : Int) - x4)) < (s.length : Int)))) = false by (try rw [hc8]); (try rw [hc9]); first | done | rfl)))) ?_
        refine JD.t 31 Yld.lh ?_
        refine JD.rr 32 (.string (ba s)) ?_
        refine JD.rr 33 (.int .i64 (s.length : Int)) ?_
        refine JD.rr 34 (.int .i64 (IntKind.i64.wrap (x6 + (s.length : Int)))) ?_
        refine JD.t 35 (Yld.ss x5 (some x6) (some (IntKind.i64.wrap (x6 + (s.length : Int)))) (q7 ((show (x2 || (decide ((IntKind.i64.wrap ((x3.length : Int) - x4)) < (s.length : Int)))) = false by (try rw [hc8]); (try rw [hc9]); first | done | rfl)))) ?_
        refine JD.rr 36 (.string (ba s)) ?_
        refine JD.t 37 (Yld.cp .neq (sub x5 x6 (IntKind.i64.wrap (x6 + (s.length : Int)))) s) ?_
        refine JD.rr 38 (.bool (cmpS .neq (sub x5 x6 (IntKind.i64.wrap (x6 + (s.length : Int)))) s)) ?_
        refine JD.e ?_
        exact JK.invQ (Sub.of (by skip; (try rw [hc8]); (try rw [hc9]); first | done | kernel_rfl))
  refine JC.next ?_
  refine JC.cd ((x2 || (decide ((IntKind.i64.wrap ((x3.length : Int) - x4)) < (s.length : Int)))) || (cmpS .neq (sub x5 x6 (IntKind.i64.wrap (x6 + (s.length : Int)))) s)) (fun hb => ?_) (fun hb => ?_)
  · have H := H.1 (hb)
    refine JC.seq (JC.region ?_)
    refine JO.p 1 [(43, .pointer r)] ?_
    refine JO.y 1 (Yld.np na1) ?_
    refine JO.p 3 [(45, .pointer (some (a1.add 2)))] ?_
    obtain ⟨hs, H⟩ := H
    refine JO.s 3 (OpOk.st [.bool true] hs ?_)
    intro h10 hh
    have H := H h10 hh
    refine JO.end_ (JC.next (JC.ret ?_))
    exact JK.ret0 rfl ⟨by kernel_rfl, H⟩
  · have H := H.2 (hb)
    refine JC.skip (JC.next (JC.region ?_))
    refine JO.p 2 [(46, .pointer r), (47, .pointer r)] ?_
    refine JO.y 2 (Yld.np na1) ?_
    refine JO.p 4 [(49, .pointer (some (a1.add 1)))] ?_
    obtain ⟨x11, lx11, H⟩ := H
    refine JO.y 4 (Yld.le lx11) ?_
    refine JO.p 8 [(53, .int .i64 (IntKind.i64.wrap (x11 + (s.length : Int))))] ?_
    refine JO.y 8 (Yld.np na1) ?_
    refine JO.p 10 [(55, .pointer (some (a1.add 1)))] ?_
    obtain ⟨hs, H⟩ := H
    refine JO.s 10 (OpOk.st [.int .i64 (IntKind.i64.wrap (x11 + (s.length : Int)))] hs ?_)
    intro h12 hh
    have H := H h12 hh
    refine JO.end_ ?_
    exact JK.ret0 rfl ⟨by kernel_rfl, H⟩

def F_tenureref05_reader_among.body (r : Option Addr) (a1_end : Str) (h : Hp) (K : Sl → Hp → Prop) (X : Chain → Hp → Prop) : Prop :=
F_tenureref05_reader_starts.call r a1_end h (fun (r1 : Bool) (h2 : Hp) => (r1 = true → F_tenureref05_reader_eat.call r a1_end h2 (fun (h3 : Hp) => K (⟨none, 0, 0⟩ : Sl) h3) X) ∧
(r1 = false → LoopW (fun (s4 : Sl) h5 next6 =>
NilW r (fun (a8 : Addr) => LoadW h5 (a8.add 2) cB (fun (x9 : Bool) => ((!x9) = true → F_tenureref05_reader_term.call r h5 (fun (r10 : V_api_Term) (h11 : Hp) => AllocW h11 24 [.int .i64 r10.Kind, .int .i64 r10.N, .string (ba r10.S), sl r10.L] (fun (p12 : Nat) (h13 : Hp) => AppW h13 24 4 56 [.int .i64 0, .int .i64 0, .string (ba ([] : Str)), sl (⟨none, 0, 0⟩ : Sl)] s4 (⟨some ⟨p12, 0, none⟩, 1, 1⟩ : Sl) (fun (s14 : Sl) (h15 : Hp) => F_tenureref05_reader_starts.call r a1_end h15 (fun (r16 : Bool) (h17 : Hp) => (r16 = true → F_tenureref05_reader_eat.call r a1_end h17 (fun (h18 : Hp) => K s14 h18) X) ∧
(r16 = false → F_tenureref05_reader_eat.call r ([44] : Str) h17 (fun (h19 : Hp) => next6 s14 h19) X)) X))) X) ∧
((!x9) = false → K (⟨none, 0, 0⟩ : Sl) h5)))) (⟨none, 0, 0⟩ : Sl) h2)) X
theorem F_tenureref05_reader_among.sound {r : Option Addr} {a1_end : Str} {h : Hp} {K : Sl → Hp → Prop} {X : Chain → Hp → Prop} (H : F_tenureref05_reader_among.body r a1_end h K X) : F_tenureref05_reader_among.call r a1_end h K X := by
  unfold F_tenureref05_reader_among.body at H
  refine CallH.of Tryz.func83 rfl rfl fun w0 hw0 => ?_
  refine JC.seq (JC.region ?_)
  refine JO.p 1 [(4, sl (⟨none, 0, 0⟩ : Sl))] ?_
  refine JO.end_ (JC.next (JC.seq (JC.region ?_)))
  refine JO.p 1 [(5, sl (⟨none, 0, 0⟩ : Sl))] ?_
  refine JO.end_ (JC.next (JC.seq (JC.seq (JC.region ?_))))
  refine JO.p 2 [(6, .pointer r), (7, .string (ba a1_end))] ?_
  refine JO.s 2 (OpOk.c (CallH.mono H ?_ fun _ _ hx => hx))
  rintro _ h2 ⟨r1, rfl, H⟩
  refine JO.end_ (JC.next ?_)
  refine JC.cd r1 (fun hb => ?_) (fun hb => ?_)
  · have H := H.1 (hb)
    refine JC.seq (JC.region ?_)
    refine JO.p 2 [(9, .pointer r), (10, .string (ba a1_end))] ?_
    refine JO.s 2 (OpOk.c (CallH.mono H ?_ fun _ _ hx => hx))
    rintro _ h3 ⟨rfl, H⟩
    refine JO.end_ (JC.next (JC.seq (JC.region ?_)))
    refine JO.p 1 [(4, sl (⟨none, 0, 0⟩ : Sl))] ?_
    refine JO.end_ (JC.next (JC.ret ?_))
    exact JK.retG1 (sl (⟨none, 0, 0⟩ : Sl)) rfl RVal.s ⟨(⟨none, 0, 0⟩ : Sl), by kernel_rfl, H⟩
  · have H := H.2 (hb)
    refine JC.skip (JC.next (JC.seq (JC.block ?_)))
    obtain ⟨I7, μI7, hI7, H⟩ := H
    refine JC.loop (S := Sl) (fun s4 => [(0, .pointer r), (1, .string (ba a1_end)), (5, sl s4)]) (fun s4 h' => KeepB [] h' ∧ I7 s4 h') μI7 (⟨none, 0, 0⟩ : Sl) Sub.kk ⟨KeepB.nil _, hI7⟩ ?_
    rintro s4 h5 ⟨hB, hI⟩
    have H := H s4 h5 hI
    refine JC.seq (JC.seq (JC.region ?_))
    refine JO.p 1 [(12, .pointer r)] ?_
    obtain ⟨a8, na8, H⟩ := H
    refine JO.y 1 (Yld.np na8) ?_
    refine JO.p 3 [(14, .pointer (some (a8.add 2)))] ?_
    obtain ⟨x9, lx9, H⟩ := H
    refine JO.y 3 (Yld.le lx9) ?_
    refine JO.p 5 [(16, .bool (!x9))] ?_
    refine JO.end_ (JC.next ?_)
    refine JC.cd (!x9) (fun hb => ?_) (fun hb => ?_)
    · have H := H.1 (hb)
      refine JC.skip (JC.next (JC.block (JC.seq (JC.region ?_))))
      refine JO.p 2 [(17, sl s4), (18, .pointer r)] ?_
      refine JO.s 2 (OpOk.c (CallH.mono H ?_ fun _ _ hx => hx))
      rintro _ h11 ⟨r10, rfl, H⟩
      refine JO.s 3 (OpOk.bs 1 [.int .i64 r10.Kind, .int .i64 r10.N, .string (ba r10.S), sl r10.L] 24 ?_)
      intro p12 h13 hp hh
      have H := H p12 h13 hp hh
      refine JO.s 4 (OpOk.as 24 (.agg #[.int .i64 0, .int .i64 0, .string (ba ([] : Str)), sl (⟨none, 0, 0⟩ : Sl)]) H ?_)
      rintro s14 h15 H
      refine JO.p 6 [(5, sl s14)] ?_
      refine JO.end_ (JC.next (JC.seq (JC.seq (JC.region ?_))))
      refine JO.p 2 [(22, .pointer r), (23, .string (ba a1_end))] ?_
      refine JO.s 2 (OpOk.c (CallH.mono H ?_ fun _ _ hx => hx))
      rintro _ h17 ⟨r16, rfl, H⟩
      refine JO.end_ (JC.next ?_)
      refine JC.cd r16 (fun hb => ?_) (fun hb => ?_)
      · have H := H.1 (hb)
        refine JC.seq (JC.region ?_)
        refine JO.p 2 [(25, .pointer r), (26, .string (ba a1_end))] ?_
        refine JO.s 2 (OpOk.c (CallH.mono H ?_ fun _ _ hx => hx))
        rintro _ h18 ⟨rfl, H⟩
        refine JO.end_ (JC.next (JC.seq (JC.region ?_)))
        refine JO.p 2 [(4, sl s14)] ?_
        refine JO.end_ (JC.next (JC.ret ?_))
        exact JK.retG1 (sl s14) rfl RVal.s ⟨s14, by kernel_rfl, H⟩
      · have H := H.2 (hb)
        refine JC.skip (JC.next (JC.region ?_))
        refine JO.p 1 [(29, .pointer r)] ?_
        refine JO.s 1 (OpOk.c (CallH.mono H ?_ fun _ _ hx => hx))
        rintro _ h19 ⟨rfl, H⟩
        refine JO.end_ ?_
        exact JK.inv s14 Sub.kk ⟨⟨(KeepB.nil _), H.1⟩, H.2⟩
    · have H := H.2 (hb)
      refine JC.exit rfl ?_
      refine JC.next (JC.seq (JC.region ?_))
      refine JO.p 1 [(4, sl (⟨none, 0, 0⟩ : Sl))] ?_
      refine JO.end_ (JC.next (JC.ret ?_))
      exact JK.retG1 (sl (⟨none, 0, 0⟩ : Sl)) rfl RVal.s ⟨(⟨none, 0, 0⟩ : Sl), by kernel_rfl, H⟩

def F_tenureref05_reader_list.body (r : Option Addr) (h : Hp) (K : V_api_Term → Hp → Prop) (X : Chain → Hp → Prop) : Prop :=
∀ (p1 : Nat) (p3 : Nat) (h5 : Hp), New p1 h h5 → New p3 h h5 → Ev [p3, p1] h h5 → (LtAll [p3, p1] h5 → F_tenureref05_reader_eat.call r ([91] : Str) h5 (fun (h6 : Hp) => SameOn [p3, p1] h5 h6 ∧ (LtAll [p3, p1] h6 → F_tenureref05_reader_starts.call r ([93] : Str) h6 (fun (r7 : Bool) (h8 : Hp) => SameOn [p3, p1] h6 h8 ∧ (r7 = true → (LtAll [p3, p1] h8 → F_tenureref05_reader_eat.call r ([93] : Str) h8 (fun (h9 : Hp) => SameOn [p3, p1] h8 h9 ∧ ∀ (h10 : Hp), Ev [p3, p1] h9 h10 → K (⟨8, 0, ([] : Str), (⟨none, 0, 0⟩ : Sl)⟩ : V_api_Term) h10) X)) ∧
(r7 = false → JoinW (fun (k11 : Sl → Hp → Prop) =>
LoopW (fun (s14 : Sl) h15 next16 =>
NilW r (fun (a18 : Addr) => LoadW h15 (a18.add 2) cB (fun (x19 : Bool) => ((!x19) = true → (LtAll [p3, p1] h15 → F_tenureref05_reader_term.call r h15 (fun (r20 : V_api_Term) (h21 : Hp) => SameOn [p3, p1] h15 h21 ∧ AllocW h21 24 [.int .i64 r20.Kind, .int .i64 r20.N, .string (ba r20.S), sl r20.L] (fun (p22 : Nat) (h23 : Hp) => AppW h23 24 4 56 [.int .i64 0, .int .i64 0, .string (ba ([] : Str)), sl (⟨none, 0, 0⟩ : Sl)] s14 (⟨some ⟨p22, 0, none⟩, 1, 1⟩ : Sl) (fun (s24 : Sl) (h25 : Hp) => SameOn [p3, p1] h23 h25 ∧ (LtAll [p3, p1] h25 → F_tenureref05_reader_starts.call r ([44] : Str) h25 (fun (r26 : Bool) (h27 : Hp) => SameOn [p3, p1] h25 h27 ∧ ((!r26) = true → k11 s24 h27) ∧
((!r26) = false → (LtAll [p3, p1] h27 → F_tenureref05_reader_eat.call r ([44] : Str) h27 (fun (h28 : Hp) => SameOn [p3, p1] h27 h28 ∧ next16 s24 h28) X))) X)))) X)) ∧
((!x19) = false → k11 s14 h15)))) (⟨none, 0, 0⟩ : Sl) h8) (fun (s12 : Sl) h13 =>
JoinW (fun (k29 : V_api_Term → Hp → Prop) =>
(LtAll [p3, p1] h13 → F_tenureref05_reader_starts.call r ([124] : Str) h13 (fun (r32 : Bool) (h33 : Hp) => SameOn [p3, p1] h13 h33 ∧ (r32 = true → (LtAll [p3, p1] h33 → F_tenureref05_reader_eat.call r ([124] : Str) h33 (fun (h34 : Hp) => SameOn [p3, p1] h33 h34 ∧ (LtAll [p3, p1] h34 → F_tenureref05_reader_term.call r h34 (fun (r35 : V_api_Term) (h36 : Hp) => SameOn [p3, p1] h34 h36 ∧ (((r35.Kind == 8) || (r35.Kind == 9)) = true → NilW r (fun (a39 : Addr) => ∀ (h37 : Hp), Ev [p3, p1] h36 h37 → StoreW h37 (a39.add 2) [.bool true] (fun (h40 : Hp) => SameOn [p3, p1] h37 h40 ∧ k29 r35 h40))) ∧
(((r35.Kind == 8) || (r35.Kind == 9)) = false → ∀ (h37 : Hp), Ev [p3, p1] h36 h37 → k29 r35 h37)) X)) X)) ∧
(r32 = false → k29 (⟨8, 0, ([] : Str), (⟨none, 0, 0⟩ : Sl)⟩ : V_api_Term) h33)) X)) (fun (s30 : V_api_Term) h31 =>
(LtAll [p3, p1] h31 → F_tenureref05_reader_eat.call r ([93] : Str) h31 (fun (h41 : Hp) => SameOn [p3, p1] h31 h41 ∧ (LtAll [p3, p1] h41 → F_tenureref02_MakeList.call s12 s30 h41 (fun (r42 : V_api_Term) (h43 : Hp) => SameOn [p3, p1] h41 h43 ∧ ∀ (h44 : Hp), Ev [p3, p1] h43 h44 → K r42 h44) X)) X))))) X)) X)
theorem F_tenureref05_reader_list.sound {r : Option Addr} {h : Hp} {K : V_api_Term → Hp → Prop} {X : Chain → Hp → Prop} (H : F_tenureref05_reader_list.body r h K X) : F_tenureref05_reader_list.call r h K X := by
  unfold F_tenureref05_reader_list.body at H
  refine CallH.of Tryz.func84 rfl rfl fun w0 hw0 => ?_
  refine JC.seq (JC.region ?_)
  refine JO.s 0 (OpOk.bp [.int .i64 0, .int .i64 0, .string (ba ([] : Str)), sl (⟨none, 0, 0⟩ : Sl)] 24 ?_)
  intro p1 h2 hp hh
  have hE := Ev.refl [] h
  have hB := KeepB.nil h
  have hNp1 : Array.size h ≤ p1 := hp ▸ hE.size
  have hB : KeepB [(p1, .cells #[.int .i64 0, .int .i64 0, .string (ba ([] : Str)), sl (⟨none, 0, 0⟩ : Sl)] 24 (0, 0))] h2 := hB.push hp hh
  have hE := hE.push hp hh
  refine JO.end_ (JC.next (JC.seq (JC.region ?_)))
  refine JO.p 1 [(3, sl (⟨none, 0, 0⟩ : Sl))] ?_
  refine JO.end_ (JC.next (JC.seq (JC.region ?_)))
  refine JO.p 1 [(5, .agg #[.int .i64 8, .int .i64 0, .string (ba ([] : Str)), sl (⟨none, 0, 0⟩ : Sl)])] ?_
  refine JO.s 1 (OpOk.bp [.int .i64 0, .int .i64 0, .string (ba ([] : Str)), sl (⟨none, 0, 0⟩ : Sl)] 24 ?_)
  intro p3 h4 hp hh
  have hNp3 : Array.size h ≤ p3 := hp ▸ hE.size
  have hB : KeepB [(p3, .cells #[.int .i64 0, .int .i64 0, .string (ba ([] : Str)), sl (⟨none, 0, 0⟩ : Sl)] 24 (0, 0)), (p1, .cells #[.int .i64 0, .int .i64 0, .string (ba ([] : Str)), sl (⟨none, 0, 0⟩ : Sl)] 24 (0, 0))] h4 := hB.push hp hh
  have hE := hE.push hp hh
  refine JO.s 2 (OpOk.st [.int .i64 8, .int .i64 0, .string (ba ([] : Str)), sl (⟨none, 0, 0⟩ : Sl)] (KeepB.st hB 0 0 4) ?_)
  intro h5 hh
  have hE := hE.set hh (by simp [add_block])
  have hB : KeepB [(p3, .cells #[.int .i64 8, .int .i64 0, .string (ba ([] : Str)), sl (⟨none, 0, 0⟩ : Sl)] 24 (0, 0)), (p1, .cells #[.int .i64 0, .int .i64 0, .string (ba ([] : Str)), sl (⟨none, 0, 0⟩ : Sl)] 24 (0, 0))] h5 := hB.set 0 rfl (off := 0) rfl hh
  refine JO.end_ (JC.next (JC.seq (JC.region ?_)))
  refine JO.p 1 [(6, .pointer r)] ?_
  have H := H p1 p3 h5 ⟨hNp1, hB.l 1⟩ ⟨hNp3, hB.l 0⟩ hE
  have hE := Ev.refl [p3, p1] h5
  have H := H hB.ltAll
  refine JO.s 1 (OpOk.c (CallH.mono H ?_ fun _ _ hx => hx))
  rintro _ h6 ⟨rfl, hS, H⟩
  have hB := hB.same hS
  have hE := Ev.refl [p3, p1] h6
  refine JO.end_ (JC.next (JC.seq (JC.seq (JC.region ?_))))
  refine JO.p 1 [(8, .pointer r)] ?_
  have H := H hB.ltAll
  refine JO.s 1 (OpOk.c (CallH.mono H ?_ fun _ _ hx => hx))
  rintro _ h8 ⟨r7, rfl, hS, H⟩
  have hB := hB.same hS
  have hE := Ev.refl [p3, p1] h8
  refine JO.end_ (JC.next ?_)
  refine JC.cd r7 (fun hb => ?_) (fun hb => ?_)
  · have H := H.1 (hb)
    refine JC.seq (JC.region ?_)
    refine JO.p 1 [(10, .pointer r)] ?_
    have H := H hB.ltAll
    refine JO.s 1 (OpOk.c (CallH.mono H ?_ fun _ _ hx => hx))
    rintro _ h9 ⟨rfl, hS, H⟩
    have hB := hB.same hS
    have hE := Ev.refl [p3, p1] h9
    refine JO.end_ (JC.next (JC.seq (JC.region ?_)))
    refine JO.y 0 (Yld.lne (KeepB.c hB 0 0 [.int .i64 8, .int .i64 0, .string (ba ([] : Str)), sl (⟨none, 0, 0⟩ : Sl)])) ?_
    refine JO.s 1 (OpOk.st [.int .i64 8, .int .i64 0, .string (ba ([] : Str)), sl (⟨none, 0, 0⟩ : Sl)] (KeepB.st hB 1 0 4) ?_)
    intro h10 hh
    have hE := hE.set hh (by simp [add_block])
    have hB : KeepB [(p3, .cells #[.int .i64 8, .int .i64 0, .string (ba ([] : Str)), sl (⟨none, 0, 0⟩ : Sl)] 24 (0, 0)), (p1, .cells #[.int .i64 8, .int .i64 0, .string (ba ([] : Str)), sl (⟨none, 0, 0⟩ : Sl)] 24 (0, 0))] h10 := hB.set 1 rfl (off := 0) rfl hh
    refine JO.end_ (JC.next (JC.ret ?_))
    have H := H h10 hE
    have hE := Ev.refl [p3, p1] h10
    exact JK.retG1 (.agg #[.int .i64 8, .int .i64 0, .string (ba ([] : Str)), sl (⟨none, 0, 0⟩ : Sl)]) rfl (RVal.bN p1 24 hB 1) ⟨(⟨8, 0, ([] : Str), (⟨none, 0, 0⟩ : Sl)⟩ : V_api_Term), by kernel_rfl, H⟩
  · have H := H.2 (hb)
    refine JC.skip (JC.next ?_)
    obtain ⟨k11, H, Hk11⟩ := H
    refine JC.join (S := Sl) (fun s12 => [(0, .pointer r), (2, .pointer (some ⟨p1, 0, none⟩)), (3, sl s12), (4, .pointer (some ⟨p3, 0, none⟩))]) (fun s12 h' => KeepB [(p3, .cells #[.int .i64 8, .int .i64 0, .string (ba ([] : Str)), sl (⟨none, 0, 0⟩ : Sl)] 24 (0, 0)), (p1, .cells #[.int .i64 0, .int .i64 0, .string (ba ([] : Str)), sl (⟨none, 0, 0⟩ : Sl)] 24 (0, 0))] h' ∧ k11 s12 h') ?_ ?_
    · refine JC.block ?_
      obtain ⟨I17, μI17, hI17, H⟩ := H
      refine JC.loop (S := Sl) (fun s14 => [(0, .pointer r), (2, .pointer (some ⟨p1, 0, none⟩)), (3, sl s14), (4, .pointer (some ⟨p3, 0, none⟩))]) (fun s14 h' => KeepB [(p3, .cells #[.int .i64 8, .int .i64 0, .string (ba ([] : Str)), sl (⟨none, 0, 0⟩ : Sl)] 24 (0, 0)), (p1, .cells #[.int .i64 0, .int .i64 0, .string (ba ([] : Str)), sl (⟨none, 0, 0⟩ : Sl)] 24 (0, 0))] h' ∧ I17 s14 h') μI17 (⟨none, 0, 0⟩ : Sl) Sub.kk ⟨hB, hI17⟩ ?_
      rintro s14 h15 ⟨hB, hI⟩
      have H := H s14 h15 hI
      have hE := Ev.refl [p3, p1] h15
      refine JC.seq (JC.seq (JC.region ?_))
      refine JO.p 1 [(13, .pointer r)] ?_
      obtain ⟨a18, na18, H⟩ := H
      refine JO.y 1 (Yld.np na18) ?_
      refine JO.p 3 [(15, .pointer (some (a18.add 2)))] ?_
      obtain ⟨x19, lx19, H⟩ := H
      refine JO.y 3 (Yld.le lx19) ?_
      refine JO.p 5 [(17, .bool (!x19))] ?_
      refine JO.end_ (JC.next ?_)
      refine JC.cd (!x19) (fun hb => ?_) (fun hb => ?_)
      · have H := H.1 (hb)
        refine JC.skip (JC.next (JC.block (JC.seq (JC.region ?_))))
        refine JO.p 2 [(18, sl s14), (19, .pointer r)] ?_
        have H := H hB.ltAll
        refine JO.s 2 (OpOk.c (CallH.mono H ?_ fun _ _ hx => hx))
        rintro _ h21 ⟨r20, rfl, hS, H⟩
        have hB := hB.same hS
        have hE := Ev.refl [p3, p1] h21
        refine JO.s 3 (OpOk.bs 1 [.int .i64 r20.Kind, .int .i64 r20.N, .string (ba r20.S), sl r20.L] 24 ?_)
        intro p22 h23 hp hh
        have H := H p22 h23 hp hh
        have hB := hB.grow hh
        have hE := Ev.refl [p3, p1] h23
        refine JO.s 4 (OpOk.as 24 (.agg #[.int .i64 0, .int .i64 0, .string (ba ([] : Str)), sl (⟨none, 0, 0⟩ : Sl)]) H ?_)
        rintro s24 h25 ⟨hS, H⟩
        have hB := hB.same hS
        have hE := Ev.refl [p3, p1] h25
        refine JO.p 6 [(3, sl s24)] ?_
        refine JO.end_ (JC.next (JC.seq (JC.seq (JC.region ?_))))
        refine JO.p 1 [(23, .pointer r)] ?_
        have H := H hB.ltAll
        refine JO.s 1 (OpOk.c (CallH.mono H ?_ fun _ _ hx => hx))
        rintro _ h27 ⟨r26, rfl, hS, H⟩
        have hB := hB.same hS
        have hE := Ev.refl [p3, p1] h27
        refine JO.p 3 [(25, .bool (!r26))] ?_
        refine JO.end_ (JC.next ?_)
        refine JC.cd (!r26) (fun hb => ?_) (fun hb => ?_)
        · have H := H.1 (hb)
          refine JC.exit rfl ?_
          exact JK.inv s24 Sub.kk ⟨hB, H⟩
        · have H := H.2 (hb)
          refine JC.skip (JC.next (JC.region ?_))
          refine JO.p 1 [(26, .pointer r)] ?_
          have H := H hB.ltAll
          refine JO.s 1 (OpOk.c (CallH.mono H ?_ fun _ _ hx => hx))
          rintro _ h28 ⟨rfl, hS, H⟩
          have hB := hB.same hS
          have hE := Ev.refl [p3, p1] h28
          refine JO.end_ ?_
          exact JK.inv s24 Sub.kk ⟨⟨hB, H.1⟩, H.2⟩
      · have H := H.2 (hb)
        refine JC.exit rfl ?_
        exact JK.inv s14 Sub.kk ⟨hB, H⟩
    · rintro s12 h13 ⟨hB, hk⟩
      have H := Hk11 s12 h13 hk
      have hE := Ev.refl [p3, p1] h13
      obtain ⟨k29, H, Hk29⟩ := H
      refine JC.join (S := V_api_Term) (fun s30 => [(0, .pointer r), (2, .pointer (some ⟨p1, 0, none⟩)), (3, sl s12), (4, .pointer (some ⟨p3, 0, none⟩))]) (fun s30 h' => KeepB [(p3, .cells #[.int .i64 s30.Kind, .int .i64 s30.N, .string (ba s30.S), sl s30.L] 24 (0, 0)), (p1, .cells #[.int .i64 0, .int .i64 0, .string (ba ([] : Str)), sl (⟨none, 0, 0⟩ : Sl)] 24 (0, 0))] h' ∧ k29 s30 h') ?_ ?_
      · refine JC.seq (JC.region ?_)
        refine JO.p 1 [(28, .pointer r)] ?_
        have H := H hB.ltAll
        refine JO.s 1 (OpOk.c (CallH.mono H ?_ fun _ _ hx => hx))
        rintro _ h33 ⟨r32, rfl, hS, H⟩
        have hB := hB.same hS
        have hE := Ev.refl [p3, p1] h33
        refine JO.end_ (JC.next ?_)
        refine JC.cd r32 (fun hb => ?_) (fun hb => ?_)
        · have H := H.1 (hb)
          refine JC.seq (JC.region ?_)
          refine JO.p 1 [(30, .pointer r)] ?_
          have H := H hB.ltAll
          refine JO.s 1 (OpOk.c (CallH.mono H ?_ fun _ _ hx => hx))
          rintro _ h34 ⟨rfl, hS, H⟩
          have hB := hB.same hS
          have hE := Ev.refl [p3, p1] h34
          refine JO.end_ (JC.next (JC.seq (JC.region ?_)))
          refine JO.p 1 [(32, .pointer r)] ?_
          have H := H hB.ltAll
          refine JO.s 1 (OpOk.c (CallH.mono H ?_ fun _ _ hx => hx))
          rintro _ h36 ⟨r35, rfl, hS, H⟩
          have hB := hB.same hS
          have hE := Ev.refl [p3, p1] h36
          refine JO.s 2 (OpOk.st [.int .i64 r35.Kind, .int .i64 r35.N, .string (ba r35.S), sl r35.L] (KeepB.st hB 0 0 4) ?_)
          intro h37 hh
          have hE := hE.set hh (by simp [add_block])
          have hB : KeepB [(p3, .cells #[.int .i64 r35.Kind, .int .i64 r35.N, .string (ba r35.S), sl r35.L] 24 (0, 0)), (p1, .cells #[.int .i64 0, .int .i64 0, .string (ba ([] : Str)), sl (⟨none, 0, 0⟩ : Sl)] 24 (0, 0))] h37 := hB.set 0 rfl (off := 0) rfl hh
          refine JO.end_ (JC.next (JC.seq (JC.region ?_)))
          refine JO.p 1 [(34, .pointer (some ((⟨p3, 0, none⟩ : Addr).add 0)))] ?_
          refine JO.y 1 (Yld.le (KeepB.c hB 0 0 [.int .i64 r35.Kind])) ?_
          refine JO.p 4 [(37, .bool (r35.Kind == 8))] ?_
          refine JO.jq 8 [(0, .pointer r), (2, .pointer (some ⟨p1, 0, none⟩)), (3, sl s12), (4, .pointer (some ⟨p3, 0, none⟩)), (41, .bool ((r35.Kind == 8) || (r35.Kind == 9)))] ?_ ?_
          · refine JO.cs 37 (r35.Kind == 8) (fun hc38 => ?_) (fun hc38 => ?_)
            · refine JO.p 8 [(41, .bool true)] ?_
              refine JO.end_ ?_
              exact JK.invQ (Sub.of (by (try rw [hc38]); first | done | kernel_rfl))
            · refine JO.p 5 [(38, .pointer (some ((⟨p3, 0, none⟩ : Addr).add 0)))] ?_
              refine JO.y 5 (Yld.le (KeepB.c hB 0 0 [.int .i64 r35.Kind])) ?_
              refine JO.p 8 [(41, .bool (r35.Kind == 9))] ?_
              refine JO.end_ ?_
              exact JK.invQ (Sub.of (by (try rw [hc38]); first | done | kernel_rfl))
          refine JO.end_ (JC.next ?_)
          refine JC.cd ((r35.Kind == 8) || (r35.Kind == 9)) (fun hb => ?_) (fun hb => ?_)
          · have H := H.1 (hb)
            refine JC.region ?_
            refine JO.p 1 [(42, .pointer r)] ?_
            obtain ⟨a39, na39, H⟩ := H
            refine JO.y 1 (Yld.np na39) ?_
            refine JO.p 3 [(44, .pointer (some (a39.add 2)))] ?_
            have H := H h37 hE
            have hE := Ev.refl [p3, p1] h37
            obtain ⟨hs, H⟩ := H
            refine JO.s 3 (OpOk.st [.bool true] hs ?_)
            intro h40 hh
            obtain ⟨hS, H⟩ := H h40 hh
            have hB := hB.same hS
            have hE := Ev.refl [p3, p1] h40
            refine JO.end_ ?_
            exact JK.inv r35 Sub.kk ⟨hB, H⟩
          · have H := H.2 (hb)
            refine JC.skip ?_
            have H := H h37 hE
            have hE := Ev.refl [p3, p1] h37
            exact JK.inv r35 Sub.kk ⟨hB, H⟩
        · have H := H.2 (hb)
          refine JC.skip ?_
          exact JK.inv (⟨8, 0, ([] : Str), (⟨none, 0, 0⟩ : Sl)⟩ : V_api_Term) Sub.kk ⟨hB, H⟩
      · rintro s30 h31 ⟨hB, hk⟩
        have H := Hk29 s30 h31 hk
        have hE := Ev.refl [p3, p1] h31
        refine JC.seq (JC.region ?_)
        refine JO.p 1 [(45, .pointer r)] ?_
        have H := H hB.ltAll
        refine JO.s 1 (OpOk.c (CallH.mono H ?_ fun _ _ hx => hx))
        rintro _ h41 ⟨rfl, hS, H⟩
        have hB := hB.same hS
        have hE := Ev.refl [p3, p1] h41
        refine JO.end_ (JC.next (JC.seq (JC.region ?_)))
        refine JO.p 1 [(47, sl s12)] ?_
        refine JO.y 1 (Yld.lne (KeepB.c hB 0 0 [.int .i64 s30.Kind, .int .i64 s30.N, .string (ba s30.S), sl s30.L])) ?_
        have H := H hB.ltAll
        refine JO.s 2 (OpOk.c (CallH.mono H ?_ fun _ _ hx => hx))
        rintro _ h43 ⟨r42, rfl, hS, H⟩
        have hB := hB.same hS
        have hE := Ev.refl [p3, p1] h43
        refine JO.s 3 (OpOk.st [.int .i64 r42.Kind, .int .i64 r42.N, .string (ba r42.S), sl r42.L] (KeepB.st hB 1 0 4) ?_)
        intro h44 hh
        have hE := hE.set hh (by simp [add_block])
        have hB : KeepB [(p3, .cells #[.int .i64 s30.Kind, .int .i64 s30.N, .string (ba s30.S), sl s30.L] 24 (0, 0)), (p1, .cells #[.int .i64 r42.Kind, .int .i64 r42.N, .string (ba r42.S), sl r42.L] 24 (0, 0))] h44 := hB.set 1 rfl (off := 0) rfl hh
        refine JO.end_ (JC.next (JC.ret ?_))
        have H := H h44 hE
        have hE := Ev.refl [p3, p1] h44
        exact JK.retG1 (.agg #[.int .i64 r42.Kind, .int .i64 r42.N, .string (ba r42.S), sl r42.L]) rfl (RVal.bN p1 24 hB 1) ⟨r42, by kernel_rfl, H⟩

end Go.Proofs.YtefbonjcpdjhcaaGreatDoor.X

/- Normal forms of functions, and that they imply the calls. Printed by a program of ours. -/
set_option linter.unusedVariables false
set_option maxRecDepth 100000
namespace Go.Proofs.YtefbonjcpdjhcaaGreatDoor.X
open Go Go.RowKit

def F_tenureref02_parts.body (t : V_api_Term) (h : Hp) (K : Bool → Hp → Prop) (X : Chain → Hp → Prop) : Prop :=
∀ (p1 : Nat) (h2 : Hp), New p1 h h2 → Ev [p1] h h2 → (LtAll [p1] h2 → F_tenureref02_own.call t h2 (fun (r3 : Bool) (h4 : Hp) => SameOn [p1] h2 h4 ∧ ((!r3) = true → K false h4) ∧
((!r3) = false → LoopW (fun (s5 : Int) h6 next7 =>
(s5 < (t.L.len : Int) → IdxW t.L s5 (fun (b10 : Addr) => LoadW h6 (b10.add (s5.toNat * 4)) V_api_Term.cells (fun (x11 : V_api_Term) => (LtAll [p1] h6 → F_tenureref02_parts.call x11 h6 (fun (r12 : Bool) (h13 : Hp) => SameOn [p1] h6 h13 ∧ ((!r12) = true → K false h13) ∧
((!r12) = false → ∀ (x14 : Int), x14 = IntKind.i64.wrap (s5 + 1) → next7 x14 h13)) X)))) ∧
(¬ (s5 < (t.L.len : Int)) → K true h6)) 0 h4)) X)
theorem F_tenureref02_parts.sound {t : V_api_Term} {h : Hp} {K : Bool → Hp → Prop} {X : Chain → Hp → Prop} (H : F_tenureref02_parts.body t h K X) : F_tenureref02_parts.call t h K X := by
  unfold F_tenureref02_parts.body at H
  refine CallH.of Tryz.func85 rfl rfl fun w0 hw0 => ?_
  refine JC.seq (JC.region ?_)
  refine JO.s 0 (OpOk.bp [.int .i64 t.Kind, .int .i64 t.N, .string (ba t.S), sl t.L] 24 ?_)
  intro p1 h2 hp hh
  have hE := Ev.refl [] h
  have hB := KeepB.nil h
  have hNp1 : Array.size h ≤ p1 := hp ▸ hE.size
  have hB : KeepB [(p1, .cells #[.int .i64 t.Kind, .int .i64 t.N, .string (ba t.S), sl t.L] 24 (0, 0))] h2 := hB.push hp hh
  have hE := hE.push hp hh
  refine JO.p 2 [(2, .bool false)] ?_
  refine JO.end_ (JC.next (JC.seq (JC.seq (JC.region ?_))))
  refine JO.y 0 (Yld.lne (KeepB.c hB 0 0 [.int .i64 t.Kind, .int .i64 t.N, .string (ba t.S), sl t.L])) ?_
  have H := H p1 h2 ⟨hNp1, hB.l 0⟩ hE
  have hE := Ev.refl [p1] h2
  have H := H hB.ltAll
  refine JO.s 1 (OpOk.c (CallH.mono H ?_ fun _ _ hx => hx))
  rintro _ h4 ⟨r3, rfl, hS, H⟩
  have hB := hB.same hS
  have hE := Ev.refl [p1] h4
  refine JO.p 3 [(6, .bool (!r3))] ?_
  refine JO.end_ (JC.next ?_)
  refine JC.cd (!r3) (fun hb => ?_) (fun hb => ?_)
  · have H := H.1 (hb)
    refine JC.seq (JC.region ?_)
    refine JO.p 1 [(2, .bool false)] ?_
    refine JO.end_ (JC.next (JC.ret ?_))
    exact JK.retG1 (.bool false) rfl RVal.s ⟨false, by kernel_rfl, H⟩
  · have H := H.2 (hb)
    refine JC.skip (JC.next (JC.seq (JC.seq (JC.region ?_))))
    refine JO.p 1 [(3, .int .i64 0)] ?_
    refine JO.end_ (JC.next (JC.block ?_))
    obtain ⟨I8, μI8, hI8, H⟩ := H
    refine JC.loop (S := Int) (fun s5 => [(1, .pointer (some ⟨p1, 0, none⟩)), (3, .int .i64 s5)]) (fun s5 h' => KeepB [(p1, .cells #[.int .i64 t.Kind, .int .i64 t.N, .string (ba t.S), sl t.L] 24 (0, 0))] h' ∧ I8 s5 h') μI8 0 Sub.kk ⟨hB, hI8⟩ ?_
    rintro s5 h6 ⟨hB, hI⟩
    have H := H s5 h6 hI
    have hE := Ev.refl [p1] h6
    refine JC.seq (JC.seq (JC.region ?_))
    refine JO.p 2 [(7, .int .i64 s5), (8, .pointer (some ((⟨p1, 0, none⟩ : Addr).add 3)))] ?_
    refine JO.y 2 (Yld.le (KeepB.c hB 0 3 [sl t.L])) ?_
    refine JO.p 5 [(11, .bool (decide (s5 < (t.L.len : Int))))] ?_
    refine JO.end_ (JC.next ?_)
    refine JC.cd (decide (s5 < (t.L.len : Int))) (fun hb => ?_) (fun hb => ?_)
    · have H := H.1 (of_decide_eq_true hb)
      refine JC.skip (JC.next (JC.seq (JC.block (JC.seq (JC.region ?_)))))
      refine JO.p 1 [(14, .pointer (some ((⟨p1, 0, none⟩ : Addr).add 3)))] ?_
      refine JO.y 1 (Yld.le (KeepB.c hB 0 3 [sl t.L])) ?_
      refine JO.p 3 [(16, .int .i64 s5)] ?_
      obtain ⟨qb10, qb10', b10, eb10, H⟩ := H
      refine JO.y 3 (Yld.ia 24 4 .i64 t.L b10 s5 ⟨qb10, qb10'⟩ eb10) ?_
      obtain ⟨x11, lx11, H⟩ := H
      refine JO.y 4 (Yld.lne lx11) ?_
      have H := H hB.ltAll
      refine JO.s 5 (OpOk.c (CallH.mono H ?_ fun _ _ hx => hx))
      rintro _ h13 ⟨r12, rfl, hS, H⟩
      have hB := hB.same hS
      have hE := Ev.refl [p1] h13
      refine JO.p 7 [(20, .bool (!r12))] ?_
      refine JO.end_ (JC.next ?_)
      refine JC.cd (!r12) (fun hb => ?_) (fun hb => ?_)
      · have H := H.1 (hb)
        refine JC.seq (JC.region ?_)
        refine JO.p 1 [(2, .bool false)] ?_
        refine JO.end_ (JC.next (JC.ret ?_))
        exact JK.retG1 (.bool false) rfl RVal.s ⟨false, by kernel_rfl, H⟩
      · have H := H.2 (hb)
        refine JC.skip (JC.next (JC.region ?_))
        refine JO.p 2 [(13, .int .i64 (IntKind.i64.wrap (s5 + 1)))] ?_
        let x14 : Int := IntKind.i64.wrap (s5 + 1)
        have H := H x14 rfl
        refine JO.p 3 [(3, .int .i64 x14)] ?_
        refine JO.end_ ?_
        exact JK.inv x14 Sub.kk ⟨⟨hB, H.1⟩, H.2⟩
    · have H := H.2 (of_decide_eq_false hb)
      refine JC.exit rfl ?_
      refine JC.next (JC.seq (JC.region ?_))
      refine JO.p 1 [(2, .bool true)] ?_
      refine JO.end_ (JC.next (JC.ret ?_))
      exact JK.retG1 (.bool true) rfl RVal.s ⟨true, by kernel_rfl, H⟩

def F_tenureref02_Words.body (t : V_api_Term) (h : Hp) (K : Int → Hp → Prop) (X : Chain → Hp → Prop) : Prop :=
∀ (p1 : Nat) (h2 : Hp), New p1 h h2 → Ev [p1] h h2 → JoinW (fun (k3 : Int → Hp → Prop) =>
(((t.Kind == 5) || (t.Kind == 7)) = true → k3 2 h2) ∧
(((t.Kind == 5) || (t.Kind == 7)) = false → k3 1 h2)) (fun (s4 : Int) h5 =>
JoinW (fun (k7 : Int → Hp → Prop) =>
((((t.Kind == 5) || (t.Kind == 7)) || (t.Kind == 9)) = true → LoopW (fun (s12 : Int × Int) h13 next14 =>
(s12.2 < (t.L.len : Int) → IdxW t.L s12.2 (fun (b17 : Addr) => LoadW h13 (b17.add (s12.2.toNat * 4)) V_api_Term.cells (fun (x18 : V_api_Term) => (LtAll [p1] h13 → F_tenureref02_Words.call x18 h13 (fun (r19 : Int) (h20 : Hp) => SameOn [p1] h13 h20 ∧ ∀ (x21 : Int), x21 = IntKind.i64.wrap (s12.1 + r19) → ∀ (x22 : Int), x22 = IntKind.i64.wrap (s12.2 + 1) → next14 (x21, x22) h20) X)))) ∧
(¬ (s12.2 < (t.L.len : Int)) → k7 s12.1 h13)) (s4, 0) h5) ∧
((((t.Kind == 5) || (t.Kind == 7)) || (t.Kind == 9)) = false → k7 s4 h5)) (fun (s8 : Int) h9 =>
K s8 h9))
theorem F_tenureref02_Words.sound {t : V_api_Term} {h : Hp} {K : Int → Hp → Prop} {X : Chain → Hp → Prop} (H : F_tenureref02_Words.body t h K X) : F_tenureref02_Words.call t h K X := by
  unfold F_tenureref02_Words.body at H
  refine CallH.of Tryz.func86 rfl rfl fun w0 hw0 => ?_
  refine JC.seq (JC.region ?_)
  refine JO.s 0 (OpOk.bp [.int .i64 t.Kind, .int .i64 t.N, .string (ba t.S), sl t.L] 24 ?_)
  intro p1 h2 hp hh
  have hE := Ev.refl [] h
  have hB := KeepB.nil h
  have hNp1 : Array.size h ≤ p1 := hp ▸ hE.size
  have hB : KeepB [(p1, .cells #[.int .i64 t.Kind, .int .i64 t.N, .string (ba t.S), sl t.L] 24 (0, 0))] h2 := hB.push hp hh
  have hE := hE.push hp hh
  refine JO.p 2 [(2, .int .i64 0)] ?_
  refine JO.end_ (JC.next (JC.seq (JC.region ?_)))
  refine JO.p 1 [(3, .int .i64 1)] ?_
  refine JO.end_ (JC.next ?_)
  have H := H p1 h2 ⟨hNp1, hB.l 0⟩ hE
  have hE := Ev.refl [p1] h2
  obtain ⟨k3, H, Hk3⟩ := H
  refine JC.join (S := Int) (fun s4 => [(1, .pointer (some ⟨p1, 0, none⟩)), (3, .int .i64 s4)]) (fun s4 h' => KeepB [(p1, .cells #[.int .i64 t.Kind, .int .i64 t.N, .string (ba t.S), sl t.L] 24 (0, 0))] h' ∧ k3 s4 h') ?_ ?_
  · refine JC.seq (JC.region ?_)
    refine JO.p 1 [(5, .pointer (some ((⟨p1, 0, none⟩ : Addr).add 0)))] ?_
    refine JO.y 1 (Yld.le (KeepB.c hB 0 0 [.int .i64 t.Kind])) ?_
    refine JO.p 4 [(8, .bool (t.Kind == 5))] ?_
    refine JO.jq 8 [(1, .pointer (some ⟨p1, 0, none⟩)), (3, .int .i64 1), (12, .bool ((t.Kind == 5) || (t.Kind == 7)))] ?_ ?_
    · refine JO.cs 8 (t.Kind == 5) (fun hc6 => ?_) (fun hc6 => ?_)
      · refine JO.p 8 [(12, .bool true)] ?_
        refine JO.end_ ?_
        exact JK.invQ (Sub.of (by (try rw [hc6]); first | done | kernel_rfl))
      · refine JO.p 5 [(9, .pointer (some ((⟨p1, 0, none⟩ : Addr).add 0)))] ?_
        refine JO.y 5 (Yld.le (KeepB.c hB 0 0 [.int .i64 t.Kind])) ?_
        refine JO.p 8 [(12, .bool (t.Kind == 7))] ?_
        refine JO.end_ ?_
        exact JK.invQ (Sub.of (by (try rw [hc6]); first | done | kernel_rfl))
    refine JO.end_ (JC.next ?_)
    refine JC.cd ((t.Kind == 5) || (t.Kind == 7)) (fun hb => ?_) (fun hb => ?_)
    · have H := H.1 (hb)
      refine JC.region ?_
      refine JO.p 1 [(3, .int .i64 2)] ?_
      refine JO.end_ ?_
      exact JK.inv 2 Sub.kk ⟨hB, H⟩
    · have H := H.2 (hb)
      refine JC.skip ?_
      exact JK.inv 1 Sub.kk ⟨hB, H⟩
  · rintro s4 h5 ⟨hB, hk⟩
    have H := Hk3 s4 h5 hk
    have hE := Ev.refl [p1] h5
    obtain ⟨k7, H, Hk7⟩ := H
    refine JC.join (S := Int) (fun s8 => [(3, .int .i64 s8)]) (fun s8 h' => KeepB [(p1, .cells #[.int .i64 t.Kind, .int .i64 t.N, .string (ba t.S), sl t.L] 24 (0, 0))] h' ∧ k7 s8 h') ?_ ?_
    · refine JC.seq (JC.region ?_)
      refine JO.p 1 [(13, .pointer (some ((⟨p1, 0, none⟩ : Addr).add 0)))] ?_
      refine JO.y 1 (Yld.le (KeepB.c hB 0 0 [.int .i64 t.Kind])) ?_
      refine JO.p 4 [(16, .bool (t.Kind == 5))] ?_
      refine JO.jq 8 [(1, .pointer (some ⟨p1, 0, none⟩)), (3, .int .i64 s4), (20, .bool ((t.Kind == 5) || (t.Kind == 7)))] ?_ ?_
      · refine JO.cs 16 (t.Kind == 5) (fun hc10 => ?_) (fun hc10 => ?_)
        · refine JO.p 8 [(20, .bool true)] ?_
          refine JO.end_ ?_
          exact JK.invQ (Sub.of (by (try rw [hc10]); first | done | kernel_rfl))
        · refine JO.p 5 [(17, .pointer (some ((⟨p1, 0, none⟩ : Addr).add 0)))] ?_
          refine JO.y 5 (Yld.le (KeepB.c hB 0 0 [.int .i64 t.Kind])) ?_
          refine JO.p 8 [(20, .bool (t.Kind == 7))] ?_
          refine JO.end_ ?_
          exact JK.invQ (Sub.of (by (try rw [hc10]); first | done | kernel_rfl))
      refine JO.p 9 [(21, .bool ((t.Kind == 5) || (t.Kind == 7)))] ?_
      refine JO.jq 13 [(1, .pointer (some ⟨p1, 0, none⟩)), (3, .int .i64 s4), (25, .bool (((t.Kind == 5) || (t.Kind == 7)) || (t.Kind == 9)))] ?_ ?_
      · refine JO.cs 21 ((t.Kind == 5) || (t.Kind == 7)) (fun hc11 => ?_) (fun hc11 => ?_)
        · refine JO.p 13 [(25, .bool true)] ?_
          refine JO.end_ ?_
          exact JK.invQ (Sub.of (by (try rw [hc11]); first | done | kernel_rfl))
        · refine JO.p 10 [(22, .pointer (some ((⟨p1, 0, none⟩ : Addr).add 0)))] ?_
          refine JO.y 10 (Yld.le (KeepB.c hB 0 0 [.int .i64 t.Kind])) ?_
          refine JO.p 13 [(25, .bool (t.Kind == 9))] ?_
          refine JO.end_ ?_
          exact JK.invQ (Sub.of (by (try rw [hc11]); first | done | kernel_rfl))
      refine JO.end_ (JC.next ?_)
      refine JC.cd (((t.Kind == 5) || (t.Kind == 7)) || (t.Kind == 9)) (fun hb => ?_) (fun hb => ?_)
      · have H := H.1 (hb)
        refine JC.seq (JC.region ?_)
        refine JO.p 1 [(4, .int .i64 0)] ?_
        refine JO.end_ (JC.next (JC.block ?_))
        obtain ⟨I15, μI15, hI15, H⟩ := H
        refine JC.loop (S := Int × Int) (fun s12 => [(1, .pointer (some ⟨p1, 0, none⟩)), (3, .int .i64 s12.1), (4, .int .i64 s12.2)]) (fun s12 h' => KeepB [(p1, .cells #[.int .i64 t.Kind, .int .i64 t.N, .string (ba t.S), sl t.L] 24 (0, 0))] h' ∧ I15 s12 h') μI15 (s4, 0) Sub.kk ⟨hB, hI15⟩ ?_
        rintro s12 h13 ⟨hB, hI⟩
        have H := H s12 h13 hI
        have hE := Ev.refl [p1] h13
        refine JC.seq (JC.seq (JC.region ?_))
        refine JO.p 2 [(26, .int .i64 s12.2), (27, .pointer (some ((⟨p1, 0, none⟩ : Addr).add 3)))] ?_
        refine JO.y 2 (Yld.le (KeepB.c hB 0 3 [sl t.L])) ?_
        refine JO.p 5 [(30, .bool (decide (s12.2 < (t.L.len : Int))))] ?_
        refine JO.end_ (JC.next ?_)
        refine JC.cd (decide (s12.2 < (t.L.len : Int))) (fun hb => ?_) (fun hb => ?_)
        · have H := H.1 (of_decide_eq_true hb)
          refine JC.skip (JC.next (JC.seq (JC.block (JC.region ?_))))
          refine JO.p 2 [(33, .int .i64 s12.1), (34, .pointer (some ((⟨p1, 0, none⟩ : Addr).add 3)))] ?_
          refine JO.y 2 (Yld.le (KeepB.c hB 0 3 [sl t.L])) ?_
          refine JO.p 4 [(36, .int .i64 s12.2)] ?_
          obtain ⟨qb17, qb17', b17, eb17, H⟩ := H
          refine JO.y 4 (Yld.ia 24 4 .i64 t.L b17 s12.2 ⟨qb17, qb17'⟩ eb17) ?_
          obtain ⟨x18, lx18, H⟩ := H
          refine JO.y 5 (Yld.lne lx18) ?_
          have H := H hB.ltAll
          refine JO.s 6 (OpOk.c (CallH.mono H ?_ fun _ _ hx => hx))
          rintro _ h20 ⟨r19, rfl, hS, H⟩
          have hB := hB.same hS
          have hE := Ev.refl [p1] h20
          refine JO.p 8 [(40, .int .i64 (IntKind.i64.wrap (s12.1 + r19)))] ?_
          let x21 : Int := IntKind.i64.wrap (s12.1 + r19)
          have H := H x21 rfl
          refine JO.p 9 [(3, .int .i64 x21)] ?_
          refine JO.end_ (JC.next (JC.region ?_))
          refine JO.p 2 [(32, .int .i64 (IntKind.i64.wrap (s12.2 + 1)))] ?_
          let x22 : Int := IntKind.i64.wrap (s12.2 + 1)
          have H := H x22 rfl
          refine JO.p 3 [(4, .int .i64 x22)] ?_
          refine JO.end_ ?_
          exact JK.inv (x21, x22) Sub.kk ⟨⟨hB, H.1⟩, H.2⟩
        · have H := H.2 (of_decide_eq_false hb)
          refine JC.exit rfl ?_
          exact JK.inv s12.1 Sub.kk ⟨hB, H⟩
      · have H := H.2 (hb)
        refine JC.skip ?_
        exact JK.inv s4 Sub.kk ⟨hB, H⟩
    · rintro s8 h9 ⟨hB, hk⟩
      have H := Hk7 s8 h9 hk
      have hE := Ev.refl [p1] h9
      refine JC.seq (JC.region ?_)
      refine JO.p 2 [(2, .int .i64 s8)] ?_
      refine JO.end_ (JC.next (JC.ret ?_))
      exact JK.retG1 (.int .i64 s8) rfl RVal.s ⟨s8, by kernel_rfl, H⟩

def F_text_Plain.body (s : Str) (h : Hp) (K : Bool → Hp → Prop) (X : Chain → Hp → Prop) : Prop :=
JoinW (fun (k2 : Bool → Hp → Prop) =>
(((cmpS .eql s ([] : Str)) || (decide ((s.length : Int) > 64))) = true → k2 true h) ∧
(((cmpS .eql s ([] : Str)) || (decide ((s.length : Int) > 64))) = false → (0 ≤ (0 : Int) ∧ (0 : Int) < s.length) ∧ F_text_small.call (bt s 0) h (fun (r7 : Bool) (h8 : Hp) => k2 (!r7) h8) X)) (fun (y3 : Bool) h4 =>
JoinW (fun (k9 : Bool → Hp → Prop) =>
(y3 = true → k9 true h4) ∧
(y3 = false → (([32] : Str).length + s.length ≤ maxLen) ∧ ((([32] : Str) ++ s).length + ([32] : Str).length ≤ maxLen) ∧ F_strings_Contains.call ([32, 97, 102, 116, 101, 114, 32, 97, 110, 100, 32, 97, 110, 100, 97, 108, 115, 111, 32, 98, 101, 103, 105, 110, 32, 99, 97, 115, 101, 32, 99, 97, 116, 99, 104, 32, 100, 105, 118, 32, 101, 110, 100, 32, 102, 117, 110, 32, 110, 111, 116, 32, 111, 102, 32, 111, 114, 32, 111, 114, 101, 108, 115, 101, 32, 114, 101, 99, 101, 105, 118, 101, 32, 114, 101, 109, 32, 116, 114, 121, 32, 119, 104, 101, 110, 32] : Str) ((([32] : Str) ++ s) ++ ([32] : Str)) h4 (fun (r15 : Bool) (h16 : Hp) => k9 r15 h16) X)) (fun (y10 : Bool) h11 =>
(y10 = true → K false h11) ∧
(y10 = false → (s.length ≤ maxLen) ∧ BytesW h11 5 s (fun (s17 : Sl) (h18 : Hp) => F_slices_ContainsFunc_byte_byte.call s17 (.func (.func 127) #[] #[]) h18 (fun (r20 : Bool) (h21 : Hp) => K (!r20) h21) X))))
theorem F_text_Plain.sound {s : Str} {h : Hp} {K : Bool → Hp → Prop} {X : Chain → Hp → Prop} (H : F_text_Plain.body s h K X) : F_text_Plain.call s h K X := by
  unfold F_text_Plain.body at H
  refine CallH.of Tryz.func91 rfl rfl fun w0 hw0 => ?_
  refine JC.seq (JC.region ?_)
  refine JO.p 1 [(2, .bool false)] ?_
  refine JO.end_ (JC.next (JC.seq (JC.seq (JC.region ?_))))
  refine JO.p 1 [(3, .string (ba s))] ?_
  refine JO.y 1 (Yld.cp .eql s ([] : Str)) ?_
  refine JO.p 3 [(5, .bool (cmpS .eql s ([] : Str)))] ?_
  refine JO.jq 7 [(0, .string (ba s)), (9, .bool ((cmpS .eql s ([] : Str)) || (decide ((s.length : Int) > 64))))] ?_ ?_
  · refine JO.cs 5 (cmpS .eql s ([] : Str)) (fun hc1 => ?_) (fun hc1 => ?_)
    · refine JO.p 7 [(9, .bool true)] ?_
      refine JO.end_ ?_
      exact JK.invQ (Sub.of (by (try rw [hc1]); first | done | kernel_rfl))
    · refine JO.p 7 [(9, .bool (decide ((s.length : Int) > 64)))] ?_
      refine JO.end_ ?_
      exact JK.invQ (Sub.of (by (try rw [hc1]); first | done | kernel_rfl))
  refine JO.p 8 [(10, .bool ((cmpS .eql s ([] : Str)) || (decide ((s.length : Int) > 64))))] ?_
  obtain ⟨k2, H, Hk2⟩ := H
  refine JO.jn (S := Bool) 13 (fun y3 => [(0, .string (ba s)), (15, .bool y3)]) (fun y3 h' => KeepB [] h' ∧ k2 y3 h') ?_ ?_
  · refine JO.cs 10 ((cmpS .eql s ([] : Str)) || (decide ((s.length : Int) > 64))) (fun hc5 => ?_) (fun hc5 => ?_)
    · have H := H.1 (hc5)
      refine JO.p 13 [(15, .bool true)] ?_
      refine JO.end_ ?_
      exact JK.inv true (Sub.of (by (try rw [hc5]); first | done | kernel_rfl)) ⟨KeepB.nil _, H⟩
    · have H := H.2 (hc5)
      refine JO.p 9 [(11, .string (ba s))] ?_
      obtain ⟨q6, H⟩ := H
      refine JO.y 9 (Yld.ix .i64 s 0 q6) ?_
      refine JO.s 10 (OpOk.c (CallH.mono H ?_ fun _ _ hx => hx))
      rintro _ h8 ⟨r7, rfl, H⟩
      refine JO.p 13 [(15, .bool (!r7))] ?_
      refine JO.end_ ?_
      exact JK.inv (!r7) (Sub.of (by (try rw [hc5]); first | done | kernel_rfl)) ⟨KeepB.nil _, H⟩
  rintro y3 h4 ⟨hB, hk⟩
  have H := Hk2 y3 h4 hk
  have hE := Ev.refl [] h4
  refine JO.p 14 [(16, .bool y3)] ?_
  obtain ⟨k9, H, Hk9⟩ := H
  refine JO.jn (S := Bool) 19 (fun y10 => [(0, .string (ba s)), (21, .bool y10)]) (fun y10 h' => KeepB [] h' ∧ k9 y10 h') ?_ ?_
  · refine JO.cs 16 y3 (fun hc12 => ?_) (fun hc12 => ?_)
    · have H := H.1 (hc12)
      refine JO.p 19 [(21, .bool true)] ?_
      refine JO.end_ ?_
      exact JK.inv true (Sub.of (by (try rw [hc12]); first | done | kernel_rfl)) ⟨KeepB.nil _, H⟩
    · have H := H.2 (hc12)
      refine JO.p 15 [(17, .string (ba s))] ?_
      obtain ⟨q13, H⟩ := H
      refine JO.y 15 (Yld.cc ([32] : Str) s q13) ?_
      obtain ⟨q14, H⟩ := H
      refine JO.y 16 (Yld.cc (([32] : Str) ++ s) ([32] : Str) q14) ?_
      refine JO.s 17 (OpOk.c (CallH.mono H ?_ fun _ _ hx => hx))
      rintro _ h16 ⟨r15, rfl, H⟩
      refine JO.p 19 [(21, .bool r15)] ?_
      refine JO.end_ ?_
      exact JK.inv r15 (Sub.of (by (try rw [hc12]); first | done | kernel_rfl)) ⟨KeepB.nil _, H⟩
  rintro y10 h11 ⟨hB, hk⟩
  have H := Hk9 y10 h11 hk
  have hE := Ev.refl [] h11
  refine JO.end_ (JC.next ?_)
  refine JC.cd y10 (fun hb => ?_) (fun hb => ?_)
  · have H := H.1 (hb)
    refine JC.seq (JC.region ?_)
    refine JO.p 1 [(2, .bool false)] ?_
    refine JO.end_ (JC.next (JC.ret ?_))
    exact JK.retG1 (.bool false) rfl RVal.s ⟨false, by kernel_rfl, H⟩
  · have H := H.2 (hb)
    refine JC.skip (JC.next (JC.seq (JC.region ?_)))
    refine JO.p 1 [(22, .string (ba s))] ?_
    obtain ⟨q19, H⟩ := H
    refine JO.s 1 (OpOk.cb H ?_ q19)
    rintro s17 h18 H
    refine JO.s 2 (OpOk.c (CallH.mono H ?_ fun _ _ hx => hx))
    rintro _ h21 ⟨r20, rfl, H⟩
    refine JO.p 5 [(2, .bool (!r20))] ?_
    refine JO.end_ (JC.next (JC.ret ?_))
    exact JK.retG1 (.bool (!r20)) rfl RVal.s ⟨!r20, by kernel_rfl, H⟩

def F_text_quoted.body (s : Str) (h : Hp) (K : Str → Hp → Prop) (X : Chain → Hp → Prop) : Prop :=
AllocW h 73 [.pointer none, sl (⟨none, 0, 0⟩ : Sl)] (fun (p1 : Nat) (h2 : Hp) => F_strings_Builder_WriteByte.call (some ⟨p1, 0, none⟩) 39 h2 (fun (r3 : Ifc) (h4 : Hp) => (s.length ≤ maxLen) ∧ BytesW h4 5 s (fun (s5 : Sl) (h6 : Hp) => LoopW (fun (s8 : Int) h9 next10 =>
(s8 < (s5.len : Int) → JoinW (fun (k12 : Unit → Hp → Prop) =>
IdxW s5 s8 (fun (b16 : Addr) => LoadW h9 (b16.add (s8.toNat * 1)) (cI .u8) (fun (x17 : Int) => (((x17 == 39) || (x17 == 92)) = true → F_strings_Builder_WriteByte.call (some ⟨p1, 0, none⟩) 92 h9 (fun (r19 : Ifc) (h20 : Hp) => F_strings_Builder_WriteByte.call (some ⟨p1, 0, none⟩) x17 h20 (fun (r21 : Ifc) (h22 : Hp) => k12 () h22) X) X) ∧
(((x17 == 39) || (x17 == 92)) = false → (((decide (x17 < 32)) || (decide (x17 > 126))) = true → (0 ≤ x17.fdiv (2 ^ 4) ∧ (x17.fdiv (2 ^ 4)) ≤ (IntKind.u8.wrap ((x17.fdiv (2 ^ 4)) + 1)) ∧ (IntKind.u8.wrap ((x17.fdiv (2 ^ 4)) + 1)) ≤ (([48, 49, 50, 51, 52, 53, 54, 55, 56, 57, 97, 98, 99, 100, 101, 102] : Str).length : Int)) ∧ (([92, 120] : Str).length + (sub ([48, 49, 50, 51, 52, 53, 54, 55, 56, 57, 97, 98, 99, 100, 101, 102] : Str) (x17.fdiv (2 ^ 4)) (IntKind.u8.wrap ((x17.fdiv (2 ^ 4)) + 1))).length ≤ maxLen) ∧ (0 ≤ bitAnd .u8 x17 15 ∧ (bitAnd .u8 x17 15) ≤ (IntKind.u8.wrap ((bitAnd .u8 x17 15) + 1)) ∧ (IntKind.u8.wrap ((bitAnd .u8 x17 15) + 1)) ≤ (([48, 49, 50, 51, 52, 53, 54, 55, 56, 57, 97, 98, 99, 100, 101, 102] : Str).length : Int)) ∧ ((([92, 120] : Str) ++ (sub ([48, 49, 50, 51, 52, 53, 54, 55, 56, 57, 97, 98, 99, 100, 101, 102] : Str) (x17.fdiv (2 ^ 4)) (IntKind.u8.wrap ((x17.fdiv (2 ^ 4)) + 1)))).length + (sub ([48, 49, 50, 51, 52, 53, 54, 55, 56, 57, 97, 98, 99, 100, 101, 102] : Str) (bitAnd .u8 x17 15) (IntKind.u8.wrap ((bitAnd .u8 x17 15) + 1))).length ≤ maxLen) ∧ F_strings_Builder_WriteString.call (some ⟨p1, 0, none⟩) ((([92, 120] : Str) ++ (sub ([48, 49, 50, 51, 52, 53, 54, 55, 56, 57, 97, 98, 99, 100, 101, 102] : Str) (x17.fdiv (2 ^ 4)) (IntKind.u8.wrap ((x17.fdiv (2 ^ 4)) + 1)))) ++ (sub ([48, 49, 50, 51, 52, 53, 54, 55, 56, 57, 97, 98, 99, 100, 101, 102] : Str) (bitAnd .u8 x17 15) (IntKind.u8.wrap ((bitAnd .u8 x17 15) + 1)))) h9 (fun (r28 : Int) (r29 : Ifc) (h30 : Hp) => k12 () h30) X) ∧
(((decide (x17 < 32)) || (decide (x17 > 126))) = false → F_strings_Builder_WriteByte.call (some ⟨p1, 0, none⟩) x17 h9 (fun (r31 : Ifc) (h32 : Hp) => k12 () h32) X))))) (fun (s13 : Unit) h14 =>
next10 (IntKind.i64.wrap (s8 + 1)) h14)) ∧
(¬ (s8 < (s5.len : Int)) → F_strings_Builder_WriteByte.call (some ⟨p1, 0, none⟩) 39 h9 (fun (r33 : Ifc) (h34 : Hp) => F_strings_Builder_String.call (some ⟨p1, 0, none⟩) h34 (fun (r35 : Str) (h36 : Hp) => K r35 h36) X) X)) 0 h6)) X)
theorem F_text_quoted.sound {s : Str} {h : Hp} {K : Str → Hp → Prop} {X : Chain → Hp → Prop} (H : F_text_quoted.body s h K X) : F_text_quoted.call s h K X := by
  unfold F_text_quoted.body at H
  refine CallH.of Tryz.func92 rfl rfl fun w0 hw0 => ?_
  refine JC.seq (JC.region ?_)
  refine JO.p 1 [(2, .string (ba ([] : Str)))] ?_
  refine JO.end_ (JC.next (JC.seq (JC.region ?_)))
  refine JO.s 0 (OpOk.bp [.pointer none, sl (⟨none, 0, 0⟩ : Sl)] 73 ?_)
  intro p1 h2 hp hh
  have H := H p1 h2 hp hh
  refine JO.end_ (JC.next (JC.seq (JC.region ?_)))
  refine JO.s 0 (OpOk.c (CallH.mono H ?_ fun _ _ hx => hx))
  rintro _ h4 ⟨r3, rfl, H⟩
  refine JO.end_ (JC.next (JC.seq (JC.seq (JC.region ?_))))
  refine JO.p 1 [(7, .string (ba s))] ?_
  obtain ⟨q7, H⟩ := H
  refine JO.s 1 (OpOk.cb H ?_ q7)
  rintro s5 h6 H
  refine JO.p 4 [(9, .int .i64 (s5.len : Int)), (10, .int .i64 0)] ?_
  refine JO.end_ (JC.next (JC.block ?_))
  obtain ⟨I11, μI11, hI11, H⟩ := H
  refine JC.loop (S := Int) (fun s8 => [(3, .pointer (some ⟨p1, 0, none⟩)), (8, sl s5), (9, .int .i64 (s5.len : Int)), (10, .int .i64 s8)]) (fun s8 h' => KeepB [] h' ∧ I11 s8 h') μI11 0 Sub.kk ⟨KeepB.nil _, hI11⟩ ?_
  rintro s8 h9 ⟨hB, hI⟩
  have H := H s8 h9 hI
  refine JC.seq (JC.region ?_)
  refine JO.p 1 [(11, .bool (decide (s8 < (s5.len : Int))))] ?_
  refine JO.end_ (JC.next (JC.seq ?_))
  refine JC.cd (decide (s8 < (s5.len : Int))) (fun hb => ?_) (fun hb => ?_)
  · have H := H.1 (of_decide_eq_true hb)
    refine JC.skip (JC.next ?_)
    obtain ⟨k12, H, Hk12⟩ := H
    refine JC.join (S := Unit) (fun s13 => [(3, .pointer (some ⟨p1, 0, none⟩)), (8, sl s5), (9, .int .i64 (s5.len : Int)), (10, .int .i64 s8)]) (fun s13 h' => KeepB [] h' ∧ k12 s13 h') ?_ ?_
    · refine JC.block (JC.seq (JC.region ?_))
      obtain ⟨qb16, qb16', b16, eb16, H⟩ := H
      refine JO.y 0 (Yld.ia 5 1 .i64 s5 b16 s8 ⟨qb16, qb16'⟩ eb16) ?_
      obtain ⟨x17, lx17, H⟩ := H
      refine JO.y 1 (Yld.le lx17) ?_
      refine JO.p 3 [(5, .int .u8 x17)] ?_
      refine JO.end_ (JC.next (JC.block (JC.seq (JC.region ?_))))
      refine JO.p 3 [(19, .bool (x17 == 39))] ?_
      refine JO.jq 6 [(3, .pointer (some ⟨p1, 0, none⟩)), (5, .int .u8 x17), (8, sl s5), (9, .int .i64 (s5.len : Int)), (10, .int .i64 s8), (22, .bool ((x17 == 39) || (x17 == 92)))] ?_ ?_
      · refine JO.cs 19 (x17 == 39) (fun hc18 => ?_) (fun hc18 => ?_)
        · refine JO.p 6 [(22, .bool true)] ?_
          refine JO.end_ ?_
          exact JK.invQ (Sub.of (by (try rw [hc18]); first | done | kernel_rfl))
        · refine JO.p 6 [(22, .bool (x17 == 92))] ?_
          refine JO.end_ ?_
          exact JK.invQ (Sub.of (by (try rw [hc18]); first | done | kernel_rfl))
      refine JO.p 7 [(16, .bool ((x17 == 39) || (x17 == 92)))] ?_
      refine JO.end_ (JC.next ?_)
      refine JC.cd ((x17 == 39) || (x17 == 92)) (fun hb => ?_) (fun hb => ?_)
      · have H := H.1 (hb)
        refine JC.seq (JC.region ?_)
        refine JO.s 0 (OpOk.c (CallH.mono H ?_ fun _ _ hx => hx))
        rintro _ h20 ⟨r19, rfl, H⟩
        refine JO.end_ (JC.next (JC.region ?_))
        refine JO.p 1 [(24, .int .u8 x17)] ?_
        refine JO.s 1 (OpOk.c (CallH.mono H ?_ fun _ _ hx => hx))
        rintro _ h22 ⟨r21, rfl, H⟩
        refine JO.end_ ?_
        exact JK.inv () Sub.kk ⟨(KeepB.nil _), H⟩
      · have H := H.2 (hb)
        refine JC.seq (JC.region ?_)
        refine JO.p 3 [(29, .bool (decide (x17 < 32)))] ?_
        refine JO.jq 6 [(3, .pointer (some ⟨p1, 0, none⟩)), (5, .int .u8 x17), (8, sl s5), (9, .int .i64 (s5.len : Int)), (10, .int .i64 s8), (32, .bool ((decide (x17 < 32)) || (decide (x17 > 126))))] ?_ ?_
        · refine JO.cs 29 (decide (x17 < 32)) (fun hc23 => ?_) (fun hc23 => ?_)
          · refine JO.p 6 [(32, .bool true)] ?_
            refine JO.end_ ?_
            exact JK.invQ (Sub.of (by (try rw [hc23]); first | done | kernel_rfl))
          · refine JO.p 6 [(32, .bool (decide (x17 > 126)))] ?_
            refine JO.end_ ?_
            exact JK.invQ (Sub.of (by (try rw [hc23]); first | done | kernel_rfl))
        refine JO.p 7 [(26, .bool ((decide (x17 < 32)) || (decide (x17 > 126))))] ?_
        refine JO.end_ (JC.next ?_)
        refine JC.cd ((decide (x17 < 32)) || (decide (x17 > 126))) (fun hb => ?_) (fun hb => ?_)
        · have H := H.1 (hb)
          refine JC.rd 15 ?_
          refine JD.rr 0 (.int .u8 x17) ?_
          refine JD.rr 1 (.int .u8 (x17.fdiv (2 ^ 4))) ?_
          refine JD.rr 2 (.int .u8 x17) ?_
          refine JD.rr 3 (.int .u8 (x17.fdiv (2 ^ 4))) ?_
          refine JD.rr 4 (.int .u8 (IntKind.u8.wrap ((x17.fdiv (2 ^ 4)) + 1))) ?_
          obtain ⟨q24, H⟩ := H
          refine JD.t 5 (Yld.ss ([48, 49, 50, 51, 52, 53, 54, 55, 56, 57, 97, 98, 99, 100, 101, 102] : Str) (some (x17.fdiv (2 ^ 4))) (some (IntKind.u8.wrap ((x17.fdiv (2 ^ 4)) + 1))) q24) ?_
          obtain ⟨q25, H⟩ := H
          refine JD.t 6 (Yld.cc ([92, 120] : Str) (sub ([48, 49, 50, 51, 52, 53, 54, 55, 56, 57, 97, 98, 99, 100, 101, 102] : Str) (x17.fdiv (2 ^ 4)) (IntKind.u8.wrap ((x17.fdiv (2 ^ 4)) + 1))) q25) ?_
          refine JD.rr 7 (.int .u8 x17) ?_
          refine JD.rr 8 (.int .u8 (bitAnd .u8 x17 15)) ?_
          refine JD.rr 9 (.int .u8 x17) ?_
          refine JD.rr 10 (.int .u8 (bitAnd .u8 x17 15)) ?_
          refine JD.rr 11 (.int .u8 (IntKind.u8.wrap ((bitAnd .u8 x17 15) + 1))) ?_
          obtain ⟨q26, H⟩ := H
          refine JD.t 12 (Yld.ss ([48, 49, 50, 51, 52, 53, 54, 55, 56, 57, 97, 98, 99, 100, 101, 102] : Str) (some (bitAnd .u8 x17 15)) (some (IntKind.u8.wrap ((bitAnd .u8 x17 15) + 1))) q26) ?_
          obtain ⟨q27, H⟩ := H
          refine JD.t 13 (Yld.cc (([92, 120] : Str) ++ (sub ([48, 49, 50, 51, 52, 53, 54, 55, 56, 57, 97, 98, 99, 100, 101, 102] : Str) (x17.fdiv (2 ^ 4)) (IntKind.u8.wrap ((x17.fdiv (2 ^ 4)) + 1)))) (sub ([48, 49, 50, 51, 52, 53, 54, 55, 56, 57, 97, 98, 99, 100, 101, 102] : Str) (bitAnd .u8 x17 15) (IntKind.u8.wrap ((bitAnd .u8 x17 15) + 1))) q27) ?_
          refine JD.o 14 (OpOk.c (CallH.mono H ?_ fun _ _ hx => hx))
          rintro _ h30 ⟨r28, r29, rfl, H⟩
          refine ⟨HoldS.nil, ?_⟩
          refine JD.e ?_
          exact JK.inv () Sub.kk ⟨(KeepB.nil _), H⟩
        · have H := H.2 (hb)
          refine JC.region ?_
          refine JO.p 1 [(14, .int .u8 x17)] ?_
          refine JO.s 1 (OpOk.c (CallH.mono H ?_ fun _ _ hx => hx))
          rintro _ h32 ⟨r31, rfl, H⟩
          refine JO.end_ ?_
          exact JK.inv () Sub.kk ⟨(KeepB.nil _), H⟩
    · rintro s13 h14 ⟨hB, hk⟩
      have H := Hk12 s13 h14 hk
      refine JC.region ?_
      refine JO.p 2 [(10, .int .i64 (IntKind.i64.wrap (s8 + 1)))] ?_
      refine JO.end_ ?_
      exact JK.inv (IntKind.i64.wrap (s8 + 1)) Sub.kk ⟨⟨(KeepB.nil _), H.1⟩, H.2⟩
  · have H := H.2 (of_decide_eq_false hb)
    refine JC.exit rfl ?_
    refine JC.next (JC.seq (JC.region ?_))
    refine JO.s 0 (OpOk.c (CallH.mono H ?_ fun _ _ hx => hx))
    rintro _ h34 ⟨r33, rfl, H⟩
    refine JO.end_ (JC.next (JC.seq (JC.region ?_)))
    refine JO.s 0 (OpOk.c (CallH.mono H ?_ fun _ _ hx => hx))
    rintro _ h36 ⟨r35, rfl, H⟩
    refine JO.p 2 [(2, .string (ba r35))] ?_
    refine JO.end_ (JC.next (JC.ret ?_))
    exact JK.retG1 (.string (ba r35)) rfl RVal.s ⟨r35, by kernel_rfl, H⟩

def F_strings_Builder_WriteByte.body (b : Option Addr) (c : Int) (h : Hp) (K : Ifc → Hp → Prop) (X : Chain → Hp → Prop) : Prop :=
F_strings_Builder_copyCheck.call b h (fun (h1 : Hp) => NilW b (fun (a2 : Addr) => LoadW h1 (a2.add 1) cL (fun (x3 : Sl) => AllocW h1 5 [.int .u8 c] (fun (p4 : Nat) (h5 : Hp) => AppW h5 5 1 1 [.int .u8 0] x3 (⟨some ⟨p4, 0, none⟩, 1, 1⟩ : Sl) (fun (s6 : Sl) (h7 : Hp) => StoreW h7 (a2.add 1) [sl s6] (fun (h8 : Hp) => K none h8)))))) X
theorem F_strings_Builder_WriteByte.sound {b : Option Addr} {c : Int} {h : Hp} {K : Ifc → Hp → Prop} {X : Chain → Hp → Prop} (H : F_strings_Builder_WriteByte.body b c h K X) : F_strings_Builder_WriteByte.call b c h K X := by
  unfold F_strings_Builder_WriteByte.body at H
  refine CallH.of Tryz.func93 rfl rfl fun w0 hw0 => ?_
  refine JC.seq (JC.region ?_)
  refine JO.p 1 [(4, ifc none)] ?_
  refine JO.end_ (JC.next (JC.seq (JC.region ?_)))
  refine JO.p 1 [(5, .pointer b)] ?_
  refine JO.s 1 (OpOk.c (CallH.mono H ?_ fun _ _ hx => hx))
  rintro _ h1 ⟨rfl, H⟩
  refine JO.end_ (JC.next (JC.seq (JC.region ?_)))
  refine JO.p 2 [(7, .pointer b), (8, .pointer b)] ?_
  obtain ⟨a2, na2, H⟩ := H
  refine JO.y 2 (Yld.np na2) ?_
  refine JO.p 4 [(10, .pointer (some (a2.add 1)))] ?_
  obtain ⟨x3, lx3, H⟩ := H
  refine JO.y 4 (Yld.le lx3) ?_
  refine JO.p 6 [(12, .int .u8 c)] ?_
  refine JO.s 6 (OpOk.bs 1 [.int .u8 c] 5 ?_)
  intro p4 h5 hp hh
  have H := H p4 h5 hp hh
  refine JO.s 7 (OpOk.as 5 (.int .u8 0) H ?_)
  rintro s6 h7 H
  refine JO.y 8 (Yld.np na2) ?_
  refine JO.p 10 [(16, .pointer (some (a2.add 1)))] ?_
  obtain ⟨hs, H⟩ := H
  refine JO.s 10 (OpOk.st [sl s6] hs ?_)
  intro h8 hh
  have H := H h8 hh
  refine JO.end_ (JC.next (JC.seq (JC.region ?_)))
  refine JO.p 1 [(4, ifc none)] ?_
  refine JO.end_ (JC.next (JC.ret ?_))
  exact JK.retG1 (ifc none) rfl RVal.s ⟨none, by kernel_rfl, H⟩

def F_slices_Backward_api_Term_api_Term.body (s : Sl) (h : Hp) (K : Value → Hp → Prop) (X : Chain → Hp → Prop) : Prop :=
AllocW h 22 [sl s] (fun (p1 : Nat) (h2 : Hp) => K (Value.func (.func 129) #[] #[.pointer (some ⟨p1, 0, none⟩)]) h2)
theorem F_slices_Backward_api_Term_api_Term.sound {s : Sl} {h : Hp} {K : Value → Hp → Prop} {X : Chain → Hp → Prop} (H : F_slices_Backward_api_Term_api_Term.body s h K X) : F_slices_Backward_api_Term_api_Term.call s h K X := by
  unfold F_slices_Backward_api_Term_api_Term.body at H
  refine CallH.of Tryz.func96 rfl rfl fun w0 hw0 => ?_
  refine JC.seq (JC.region ?_)
  refine JO.s 0 (OpOk.bp [sl s] 22 ?_)
  intro p1 h2 hp hh
  have H := H p1 h2 hp hh
  refine JO.p 2 [(2, Value.nilFunc)] ?_
  refine JO.end_ (JC.next (JC.seq (JC.region ?_)))
  refine JO.p 2 [(2, (Value.func (.func 129) #[] #[.pointer (some ⟨p1, 0, none⟩)]))] ?_
  refine JO.end_ (JC.next (JC.ret ?_))
  exact JK.retG1 (Value.func (.func 129) #[] #[.pointer (some ⟨p1, 0, none⟩)]) rfl RVal.s ⟨Value.func (.func 129) #[] #[.pointer (some ⟨p1, 0, none⟩)], by kernel_rfl, H⟩

def F_tenureref05_Dec.body (n : Int) (h : Hp) (K : Str → Hp → Prop) (X : Chain → Hp → Prop) : Prop :=
(n < 0 → F_tenureref05_Dec.call (IntKind.i64.wrap (0 - n)) h (fun (r1 : Str) (h2 : Hp) => (([45] : Str).length + r1.length ≤ maxLen) ∧ K (([45] : Str) ++ r1) h2) X) ∧
(¬ (n < 0) → (n < 10 → (0 ≤ n ∧ n ≤ (IntKind.i64.wrap (n + 1)) ∧ (IntKind.i64.wrap (n + 1)) ≤ (([48, 49, 50, 51, 52, 53, 54, 55, 56, 57] : Str).length : Int)) ∧ K (sub ([48, 49, 50, 51, 52, 53, 54, 55, 56, 57] : Str) n (IntKind.i64.wrap (n + 1))) h) ∧
(¬ (n < 10) → F_tenureref05_Dec.call (IntKind.i64.wrap (n.tdiv 10)) h (fun (r5 : Str) (h6 : Hp) => F_tenureref05_Dec.call (n.tmod 10) h6 (fun (r7 : Str) (h8 : Hp) => (r5.length + r7.length ≤ maxLen) ∧ K (r5 ++ r7) h8) X) X))
theorem F_tenureref05_Dec.sound {n : Int} {h : Hp} {K : Str → Hp → Prop} {X : Chain → Hp → Prop} (H : F_tenureref05_Dec.body n h K X) : F_tenureref05_Dec.call n h K X := by
  unfold F_tenureref05_Dec.body at H
  refine CallH.of Tryz.func98 rfl rfl fun w0 hw0 => ?_
  refine JC.seq (JC.region ?_)
  refine JO.p 1 [(2, .string (ba ([] : Str)))] ?_
  refine JO.end_ (JC.next (JC.seq (JC.seq (JC.region ?_))))
  refine JO.p 2 [(4, .bool (decide (n < 0)))] ?_
  refine JO.end_ (JC.next ?_)
  refine JC.cd (decide (n < 0)) (fun hb => ?_) (fun hb => ?_)
  · have H := H.1 (of_decide_eq_true hb)
    refine JC.seq (JC.region ?_)
    refine JO.p 2 [(6, .int .i64 (IntKind.i64.wrap (0 - n)))] ?_
    refine JO.s 2 (OpOk.c (CallH.mono H ?_ fun _ _ hx => hx))
    rintro _ h2 ⟨r1, rfl, H⟩
    obtain ⟨q3, H⟩ := H
    refine JO.y 3 (Yld.cc ([45] : Str) r1 q3) ?_
    refine JO.p 5 [(2, .string (ba (([45] : Str) ++ r1)))] ?_
    refine JO.end_ (JC.next (JC.ret ?_))
    exact JK.retG1 (.string (ba (([45] : Str) ++ r1))) rfl RVal.s ⟨([45] : Str) ++ r1, by kernel_rfl, H⟩
  · have H := H.2 (of_decide_eq_false hb)
    refine JC.skip (JC.next (JC.seq (JC.seq (JC.region ?_))))
    refine JO.p 2 [(10, .bool (decide (n < 10)))] ?_
    refine JO.end_ (JC.next ?_)
    refine JC.cd (decide (n < 10)) (fun hb => ?_) (fun hb => ?_)
    · have H := H.1 (of_decide_eq_true hb)
      refine JC.seq (JC.region ?_)
      refine JO.p 3 [(11, .int .i64 n), (13, .int .i64 (IntKind.i64.wrap (n + 1)))] ?_
      obtain ⟨q4, H⟩ := H
      refine JO.y 3 (Yld.ss ([48, 49, 50, 51, 52, 53, 54, 55, 56, 57] : Str) (some n) (some (IntKind.i64.wrap (n + 1))) q4) ?_
      refine JO.p 5 [(2, .string (ba (sub ([48, 49, 50, 51, 52, 53, 54, 55, 56, 57] : Str) n (IntKind.i64.wrap (n + 1)))))] ?_
      refine JO.end_ (JC.next (JC.ret ?_))
      exact JK.retG1 (.string (ba (sub ([48, 49, 50, 51, 52, 53, 54, 55, 56, 57] : Str) n (IntKind.i64.wrap (n + 1))))) rfl RVal.s ⟨sub ([48, 49, 50, 51, 52, 53, 54, 55, 56, 57] : Str) n (IntKind.i64.wrap (n + 1)), by kernel_rfl, H⟩
    · have H := H.2 (of_decide_eq_false hb)
      refine JC.skip (JC.next (JC.seq (JC.region ?_)))
      refine JO.p 2 [(16, .int .i64 (IntKind.i64.wrap (n.tdiv 10)))] ?_
      refine JO.s 2 (OpOk.c (CallH.mono H ?_ fun _ _ hx => hx))
      rintro _ h6 ⟨r5, rfl, H⟩
      refine JO.p 5 [(19, .int .i64 (n.tmod 10))] ?_
      refine JO.s 5 (OpOk.c (CallH.mono H ?_ fun _ _ hx => hx))
      rintro _ h8 ⟨r7, rfl, H⟩
      obtain ⟨q9, H⟩ := H
      refine JO.y 6 (Yld.cc r5 r7 q9) ?_
      refine JO.p 8 [(2, .string (ba (r5 ++ r7)))] ?_
      refine JO.end_ (JC.next (JC.ret ?_))
      exact JK.retG1 (.string (ba (r5 ++ r7))) rfl RVal.s ⟨r5 ++ r7, by kernel_rfl, H⟩

def F_tenureref05_Plain.body (s : Str) (h : Hp) (K : Bool → Hp → Prop) (X : Chain → Hp → Prop) : Prop :=
JoinW (fun (k2 : Bool → Hp → Prop) =>
(((cmpS .eql s ([] : Str)) || (decide ((s.length : Int) > 64))) = true → k2 true h) ∧
(((cmpS .eql s ([] : Str)) || (decide ((s.length : Int) > 64))) = false → (0 ≤ (0 : Int) ∧ (0 : Int) < s.length) ∧ F_tenureref05_within.call (bt s 0) 97 122 h (fun (r7 : Bool) (h8 : Hp) => k2 (!r7) h8) X)) (fun (y3 : Bool) h4 =>
(y3 = true → K false h4) ∧
(y3 = false → LoopW (fun (s9 : Int) h10 next11 =>
(s9 < (s.length : Int) → (0 ≤ s9 ∧ s9 < s.length) ∧ F_tenureref05_within.call (bt s s9) 97 122 h10 (fun (r14 : Bool) (h15 : Hp) => JoinW (fun (k16 : Bool → Hp → Prop) =>
((!r14) = true → (0 ≤ s9 ∧ s9 < s.length) ∧ F_tenureref05_within.call (bt s s9) 65 90 h15 (fun (r21 : Bool) (h22 : Hp) => k16 (!r21) h22) X) ∧
((!r14) = false → k16 false h15)) (fun (y17 : Bool) h18 =>
JoinW (fun (k23 : Bool → Hp → Prop) =>
(y17 = true → (0 ≤ s9 ∧ s9 < s.length) ∧ F_tenureref05_within.call (bt s s9) 48 57 h18 (fun (r28 : Bool) (h29 : Hp) => k23 (!r28) h29) X) ∧
(y17 = false → k23 false h18)) (fun (y24 : Bool) h25 =>
((y24 = true) → 0 ≤ s9 ∧ s9 < s.length) ∧ (((y24 && ((bt s s9) != 95)) = true) → 0 ≤ s9 ∧ s9 < s.length) ∧ (((y24 && ((bt s s9) != 95)) && ((bt s s9) != 64)) = true → K false h25) ∧
(((y24 && ((bt s s9) != 95)) && ((bt s s9) != 64)) = false → ∀ (x34 : Int), x34 = IntKind.i64.wrap (s9 + 1) → next11 x34 h25)))) X) ∧
(¬ (s9 < (s.length : Int)) → F_tenureref05_word.call s h10 (fun (r35 : Bool) (h36 : Hp) => K (!r35) h36) X)) 0 h4))
theorem F_tenureref05_Plain.sound {s : Str} {h : Hp} {K : Bool → Hp → Prop} {X : Chain → Hp → Prop} (H : F_tenureref05_Plain.body s h K X) : F_tenureref05_Plain.call s h K X := by
  unfold F_tenureref05_Plain.body at H
  refine CallH.of Tryz.func99 rfl rfl fun w0 hw0 => ?_
  refine JC.seq (JC.region ?_)
  refine JO.p 1 [(2, .bool false)] ?_
  refine JO.end_ (JC.next (JC.seq (JC.seq (JC.region ?_))))
  refine JO.p 1 [(4, .string (ba s))] ?_
  refine JO.y 1 (Yld.cp .eql s ([] : Str)) ?_
  refine JO.p 3 [(6, .bool (cmpS .eql s ([] : Str)))] ?_
  refine JO.jq 7 [(0, .string (ba s)), (10, .bool ((cmpS .eql s ([] : Str)) || (decide ((s.length : Int) > 64))))] ?_ ?_
  · refine JO.cs 6 (cmpS .eql s ([] : Str)) (fun hc1 => ?_) (fun hc1 => ?_)
    · refine JO.p 7 [(10, .bool true)] ?_
      refine JO.end_ ?_
      exact JK.invQ (Sub.of (by (try rw [hc1]); first | done | kernel_rfl))
    · refine JO.p 7 [(10, .bool (decide ((s.length : Int) > 64)))] ?_
      refine JO.end_ ?_
      exact JK.invQ (Sub.of (by (try rw [hc1]); first | done | kernel_rfl))
  refine JO.p 8 [(11, .bool ((cmpS .eql s ([] : Str)) || (decide ((s.length : Int) > 64))))] ?_
  obtain ⟨k2, H, Hk2⟩ := H
  refine JO.jn (S := Bool) 13 (fun y3 => [(0, .string (ba s)), (16, .bool y3)]) (fun y3 h' => KeepB [] h' ∧ k2 y3 h') ?_ ?_
  · refine JO.cs 11 ((cmpS .eql s ([] : Str)) || (decide ((s.length : Int) > 64))) (fun hc5 => ?_) (fun hc5 => ?_)
    · have H := H.1 (hc5)
      refine JO.p 13 [(16, .bool true)] ?_
      refine JO.end_ ?_
      exact JK.inv true (Sub.of (by (try rw [hc5]); first | done | kernel_rfl)) ⟨KeepB.nil _, H⟩
    · have H := H.2 (hc5)
      refine JO.p 9 [(12, .string (ba s))] ?_
      obtain ⟨q6, H⟩ := H
      refine JO.y 9 (Yld.ix .i64 s 0 q6) ?_
      refine JO.s 10 (OpOk.c (CallH.mono H ?_ fun _ _ hx => hx))
      rintro _ h8 ⟨r7, rfl, H⟩
      refine JO.p 13 [(16, .bool (!r7))] ?_
      refine JO.end_ ?_
      exact JK.inv (!r7) (Sub.of (by (try rw [hc5]); first | done | kernel_rfl)) ⟨KeepB.nil _, H⟩
  rintro y3 h4 ⟨hB, hk⟩
  have H := Hk2 y3 h4 hk
  have hE := Ev.refl [] h4
  refine JO.end_ (JC.next ?_)
  refine JC.cd y3 (fun hb => ?_) (fun hb => ?_)
  · have H := H.1 (hb)
    refine JC.seq (JC.region ?_)
    refine JO.p 1 [(2, .bool false)] ?_
    refine JO.end_ (JC.next (JC.ret ?_))
    exact JK.retG1 (.bool false) rfl RVal.s ⟨false, by kernel_rfl, H⟩
  · have H := H.2 (hb)
    refine JC.skip (JC.next (JC.seq (JC.seq (JC.region ?_))))
    refine JO.p 1 [(3, .int .i64 0)] ?_
    refine JO.end_ (JC.next (JC.block ?_))
    obtain ⟨I12, μI12, hI12, H⟩ := H
    refine JC.loop (S := Int) (fun s9 => [(0, .string (ba s)), (3, .int .i64 s9)]) (fun s9 h' => KeepB [] h' ∧ I12 s9 h') μI12 0 Sub.kk ⟨KeepB.nil _, hI12⟩ ?_
    rintro s9 h10 ⟨hB, hI⟩
    have H := H s9 h10 hI
    refine JC.seq (JC.seq (JC.region ?_))
    refine JO.p 4 [(20, .bool (decide (s9 < (s.length : Int))))] ?_
    refine JO.end_ (JC.next ?_)
    refine JC.cd (decide (s9 < (s.length : Int))) (fun hb => ?_) (fun hb => ?_)
    · have H := H.1 (of_decide_eq_true hb)
      refine JC.skip (JC.next (JC.seq (JC.block (JC.seq (JC.region ?_)))))
      refine JO.p 2 [(23, .string (ba s)), (24, .int .i64 s9)] ?_
      obtain ⟨q13, H⟩ := H
      refine JO.y 2 (Yld.ix .i64 s s9 q13) ?_
      refine JO.s 3 (OpOk.c (CallH.mono H ?_ fun _ _ hx => hx))
      rintro _ h15 ⟨r14, rfl, H⟩
      refine JO.p 6 [(28, .bool (!r14))] ?_
      obtain ⟨k16, H, Hk16⟩ := H
      refine JO.jn (S := Bool) 12 (fun y17 => [(0, .string (ba s)), (3, .int .i64 s9), (34, .bool y17)]) (fun y17 h' => KeepB [] h' ∧ k16 y17 h') ?_ ?_
      · refine JO.cs 28 (!r14) (fun hc19 => ?_) (fun hc19 => ?_)
        · have H := H.1 (hc19)
          refine JO.p 8 [(29, .string (ba s)), (30, .int .i64 s9)] ?_
          obtain ⟨q20, H⟩ := H
          refine JO.y 8 (Yld.ix .i64 s s9 q20) ?_
          refine JO.s 9 (OpOk.c (CallH.mono H ?_ fun _ _ hx => hx))
          rintro _ h22 ⟨r21, rfl, H⟩
          refine JO.p 12 [(34, .bool (!r21))] ?_
          refine JO.end_ ?_
          exact JK.inv (!r21) (Sub.of (by (try rw [hc19]); first | done | kernel_rfl)) ⟨KeepB.nil _, H⟩
        · have H := H.2 (hc19)
          refine JO.p 12 [(34, .bool false)] ?_
          refine JO.end_ ?_
          exact JK.inv false (Sub.of (by (try rw [hc19]); first | done | kernel_rfl)) ⟨KeepB.nil _, H⟩
      rintro y17 h18 ⟨hB, hk⟩
      have H := Hk16 y17 h18 hk
      have hE := Ev.refl [] h18
      refine JO.p 13 [(35, .bool y17)] ?_
      obtain ⟨k23, H, Hk23⟩ := H
      refine JO.jn (S := Bool) 19 (fun y24 => [(0, .string (ba s)), (3, .int .i64 s9), (41, .bool y24)]) (fun y24 h' => KeepB [] h' ∧ k23 y24 h') ?_ ?_
      · refine JO.cs 35 y17 (fun hc26 => ?_) (fun hc26 => ?_)
        · have H := H.1 (hc26)
          refine JO.p 15 [(36, .string (ba s)), (37, .int .i64 s9)] ?_
          obtain ⟨q27, H⟩ := H
          refine JO.y 15 (Yld.ix .i64 s s9 q27) ?_
          refine JO.s 16 (OpOk.c (CallH.mono H ?_ fun _ _ hx => hx))
          rintro _ h29 ⟨r28, rfl, H⟩
          refine JO.p 19 [(41, .bool (!r28))] ?_
          refine JO.end_ ?_
          exact JK.inv (!r28) (Sub.of (by (try rw [hc26]); first | done | kernel_rfl)) ⟨KeepB.nil _, H⟩
        · have H := H.2 (hc26)
          refine JO.p 19 [(41, .bool false)] ?_
          refine JO.end_ ?_
          exact JK.inv false (Sub.of (by (try rw [hc26]); first | done | kernel_rfl)) ⟨KeepB.nil _, H⟩
      rintro y24 h25 ⟨hB, hk⟩
      have H := Hk23 y24 h25 hk
      have hE := Ev.refl [] h25
      refine JO.p 20 [(42, .bool y24)] ?_
      obtain ⟨q30, H⟩ := H
      refine JO.jq 25 [(0, .string (ba s)), (3, .int .i64 s9), (47, .bool (y24 && ((bt s s9) != 95)))] ?_ ?_
      · refine JO.cs 42 y24 (fun hc31 => ?_) (fun hc31 => ?_)
        · refine JO.p 22 [(43, .string (ba s)), (44, .int .i64 s9)] ?_
          refine JO.y 22 (Yld.ix .i64 s s9 (q30 (hc31))) ?_
          refine JO.p 25 [(47, .bool ((bt s s9) != 95))] ?_
          refine JO.end_ ?_
          exact JK.invQ (Sub.of (by (try rw [hc31]); first | done | kernel_rfl))
        · refine JO.p 25 [(47, .bool false)] ?_
          refine JO.end_ ?_
          exact JK.invQ (Sub.of (by (try rw [hc31]); first | done | kernel_rfl))
      refine JO.p 26 [(48, .bool (y24 && ((bt s s9) != 95)))] ?_
      obtain ⟨q32, H⟩ := H
      refine JO.jq 31 [(0, .string (ba s)), (3, .int .i64 s9), (53, .bool ((y24 && ((bt s s9) != 95)) && ((bt s s9) != 64)))] ?_ ?_
      · refine JO.cs 48 (y24 && ((bt s s9) != 95)) (fun hc33 => ?_) (fun hc33 => ?_)
        · refine JO.p 28 [(49, .string (ba s)), (50, .int .i64 s9)] ?_
          refine JO.y 28 (Yld.ix .i64 s s9 (q32 (hc33))) ?_
          refine JO.p 31 [(53, .bool ((bt s s9) != 64))] ?_
          refine JO.end_ ?_
          exact JK.invQ (Sub.of (by (try rw [hc33]); first | done | kernel_rfl))
        · refine JO.p 31 [(53, .bool false)] ?_
          refine JO.end_ ?_
          exact JK.invQ (Sub.of (by (try rw [hc33]); first | done | kernel_rfl))
      refine JO.end_ (JC.next ?_)
      refine JC.cd ((y24 && ((bt s s9) != 95)) && ((bt s s9) != 64)) (fun hb => ?_) (fun hb => ?_)
      · have H := H.1 (hb)
        refine JC.seq (JC.region ?_)
        refine JO.p 1 [(2, .bool false)] ?_
        refine JO.end_ (JC.next (JC.ret ?_))
        exact JK.retG1 (.bool false) rfl RVal.s ⟨false, by kernel_rfl, H⟩
      · have H := H.2 (hb)
        refine JC.skip (JC.next (JC.region ?_))
        refine JO.p 2 [(22, .int .i64 (IntKind.i64.wrap (s9 + 1)))] ?_
        let x34 : Int := IntKind.i64.wrap (s9 + 1)
        have H := H x34 rfl
        refine JO.p 3 [(3, .int .i64 x34)] ?_
        refine JO.end_ ?_
        exact JK.inv x34 Sub.kk ⟨⟨(KeepB.nil _), H.1⟩, H.2⟩
    · have H := H.2 (of_decide_eq_false hb)
      refine JC.exit rfl ?_
      refine JC.next (JC.seq (JC.region ?_))
      refine JO.p 1 [(54, .string (ba s))] ?_
      refine JO.s 1 (OpOk.c (CallH.mono H ?_ fun _ _ hx => hx))
      rintro _ h36 ⟨r35, rfl, H⟩
      refine JO.p 4 [(2, .bool (!r35))] ?_
      refine JO.end_ (JC.next (JC.ret ?_))
      exact JK.retG1 (.bool (!r35)) rfl RVal.s ⟨!r35, by kernel_rfl, H⟩

def F_tenureref05_quoted.body (s : Str) (h : Hp) (K : Str → Hp → Prop) (X : Chain → Hp → Prop) : Prop :=
LoopW (fun (s1 : Str × Int) h2 next3 =>
(s1.2 < (s.length : Int) → JoinW (fun (k5 : Str → Hp → Prop) =>
(0 ≤ s1.2 ∧ s1.2 < s.length) ∧ ∀ (x9 : Int), x9 = bt s s1.2 → (((decide (x9 < 32)) || (decide (x9 > 126))) = true → (s1.1.length + ([92, 120] : Str).length ≤ maxLen) ∧ (0 ≤ IntKind.u8.wrap (x9.tdiv 16) ∧ (IntKind.u8.wrap (x9.tdiv 16)) ≤ (IntKind.u8.wrap ((IntKind.u8.wrap (x9.tdiv 16)) + 1)) ∧ (IntKind.u8.wrap ((IntKind.u8.wrap (x9.tdiv 16)) + 1)) ≤ (([48, 49, 50, 51, 52, 53, 54, 55, 56, 57, 97, 98, 99, 100, 101, 102] : Str).length : Int)) ∧ ((s1.1 ++ ([92, 120] : Str)).length + (sub ([48, 49, 50, 51, 52, 53, 54, 55, 56, 57, 97, 98, 99, 100, 101, 102] : Str) (IntKind.u8.wrap (x9.tdiv 16)) (IntKind.u8.wrap ((IntKind.u8.wrap (x9.tdiv 16)) + 1))).length ≤ maxLen) ∧ (0 ≤ x9.tmod 16 ∧ (x9.tmod 16) ≤ (IntKind.u8.wrap ((x9.tmod 16) + 1)) ∧ (IntKind.u8.wrap ((x9.tmod 16) + 1)) ≤ (([48, 49, 50, 51, 52, 53, 54, 55, 56, 57, 97, 98, 99, 100, 101, 102] : Str).length : Int)) ∧ (((s1.1 ++ ([92, 120] : Str)) ++ (sub ([48, 49, 50, 51, 52, 53, 54, 55, 56, 57, 97, 98, 99, 100, 101, 102] : Str) (IntKind.u8.wrap (x9.tdiv 16)) (IntKind.u8.wrap ((IntKind.u8.wrap (x9.tdiv 16)) + 1)))).length + (sub ([48, 49, 50, 51, 52, 53, 54, 55, 56, 57, 97, 98, 99, 100, 101, 102] : Str) (x9.tmod 16) (IntKind.u8.wrap ((x9.tmod 16) + 1))).length ≤ maxLen) ∧ k5 (((s1.1 ++ ([92, 120] : Str)) ++ (sub ([48, 49, 50, 51, 52, 53, 54, 55, 56, 57, 97, 98, 99, 100, 101, 102] : Str) (IntKind.u8.wrap (x9.tdiv 16)) (IntKind.u8.wrap ((IntKind.u8.wrap (x9.tdiv 16)) + 1)))) ++ (sub ([48, 49, 50, 51, 52, 53, 54, 55, 56, 57, 97, 98, 99, 100, 101, 102] : Str) (x9.tmod 16) (IntKind.u8.wrap ((x9.tmod 16) + 1)))) h2) ∧
(((decide (x9 < 32)) || (decide (x9 > 126))) = false → JoinW (fun (k16 : Str → Hp → Prop) =>
(((x9 == 39) || (x9 == 92)) = true → (s1.1.length + ([92] : Str).length ≤ maxLen) ∧ k16 (s1.1 ++ ([92] : Str)) h2) ∧
(((x9 == 39) || (x9 == 92)) = false → k16 s1.1 h2)) (fun (s17 : Str) h18 =>
(0 ≤ s1.2 ∧ s1.2 ≤ (IntKind.i64.wrap (s1.2 + 1)) ∧ (IntKind.i64.wrap (s1.2 + 1)) ≤ (s.length : Int)) ∧ (s17.length + (sub s s1.2 (IntKind.i64.wrap (s1.2 + 1))).length ≤ maxLen) ∧ k5 (s17 ++ (sub s s1.2 (IntKind.i64.wrap (s1.2 + 1)))) h18))) (fun (s6 : Str) h7 =>
∀ (x23 : Int), x23 = IntKind.i64.wrap (s1.2 + 1) → next3 (s6, x23) h7)) ∧
(¬ (s1.2 < (s.length : Int)) → (s1.1.length + ([39] : Str).length ≤ maxLen) ∧ K (s1.1 ++ ([39] : Str)) h2)) (([39] : Str), 0) h
theorem F_tenureref05_quoted.sound {s : Str} {h : Hp} {K : Str → Hp → Prop} {X : Chain → Hp → Prop} (H : F_tenureref05_quoted.body s h K X) : F_tenureref05_quoted.call s h K X := by
  unfold F_tenureref05_quoted.body at H
  refine CallH.of Tryz.func100 rfl rfl fun w0 hw0 => ?_
  refine JC.seq (JC.region ?_)
  refine JO.p 1 [(2, .string (ba ([] : Str)))] ?_
  refine JO.end_ (JC.next (JC.seq (JC.region ?_)))
  refine JO.p 1 [(3, .string (ba ([39] : Str)))] ?_
  refine JO.end_ (JC.next (JC.seq (JC.seq (JC.region ?_))))
  refine JO.p 1 [(4, .int .i64 0)] ?_
  refine JO.end_ (JC.next (JC.block ?_))
  obtain ⟨I4, μI4, hI4, H⟩ := H
  refine JC.loop (S := Str × Int) (fun s1 => [(0, .string (ba s)), (3, .string (ba s1.1)), (4, .int .i64 s1.2)]) (fun s1 h' => KeepB [] h' ∧ I4 s1 h') μI4 (([39] : Str), 0) Sub.kk ⟨KeepB.nil _, hI4⟩ ?_
  rintro s1 h2 ⟨hB, hI⟩
  have H := H s1 h2 hI
  refine JC.seq (JC.seq (JC.region ?_))
  refine JO.p 4 [(9, .bool (decide (s1.2 < (s.length : Int))))] ?_
  refine JO.end_ (JC.next ?_)
  refine JC.cd (decide (s1.2 < (s.length : Int))) (fun hb => ?_) (fun hb => ?_)
  · have H := H.1 (of_decide_eq_true hb)
    refine JC.skip (JC.next ?_)
    obtain ⟨k5, H, Hk5⟩ := H
    refine JC.join (S := Str) (fun s6 => [(0, .string (ba s)), (3, .string (ba s6)), (4, .int .i64 s1.2)]) (fun s6 h' => KeepB [] h' ∧ k5 s6 h') ?_ ?_
    · refine JC.block (JC.seq (JC.region ?_))
      refine JO.p 2 [(12, .string (ba s)), (13, .int .i64 s1.2)] ?_
      obtain ⟨q8, H⟩ := H
      refine JO.y 2 (Yld.ix .i64 s s1.2 q8) ?_
      let x9 : Int := bt s s1.2
      have H := H x9 rfl
      refine JO.p 4 [(5, .int .u8 x9)] ?_
      refine JO.end_ (JC.next (JC.seq (JC.seq (JC.region ?_))))
      refine JO.p 3 [(17, .bool (decide (x9 < 32)))] ?_
      refine JO.jq 6 [(0, .string (ba s)), (3, .string (ba s1.1)), (4, .int .i64 s1.2), (5, .int .u8 x9), (20, .bool ((decide (x9 < 32)) || (decide (x9 > 126))))] ?_ ?_
      · refine JO.cs 17 (decide (x9 < 32)) (fun hc10 => ?_) (fun hc10 => ?_)
        · refine JO.p 6 [(20, .bool true)] ?_
          refine JO.end_ ?_
          exact JK.invQ (Sub.of (by (try rw [hc10]); first | done | kernel_rfl))
        · refine JO.p 6 [(20, .bool (decide (x9 > 126)))] ?_
          refine JO.end_ ?_
          exact JK.invQ (Sub.of (by (try rw [hc10]); first | done | kernel_rfl))
      refine JO.end_ (JC.next ?_)
      refine JC.cd ((decide (x9 < 32)) || (decide (x9 > 126))) (fun hb => ?_) (fun hb => ?_)
      · have H := H.1 (hb)
        refine JC.seq ?_
        refine JC.rd 17 ?_
        refine JD.rr 0 (.string (ba s1.1)) ?_
        obtain ⟨q11, H⟩ := H
        refine JD.t 1 (Yld.cc s1.1 ([92, 120] : Str) q11) ?_
        refine JD.rr 2 (.int .u8 x9) ?_
        refine JD.rr 3 (.int .u8 (IntKind.u8.wrap (x9.tdiv 16))) ?_
        refine JD.rr 4 (.int .u8 x9) ?_
        refine JD.rr 5 (.int .u8 (IntKind.u8.wrap (x9.tdiv 16))) ?_
        refine JD.rr 6 (.int .u8 (IntKind.u8.wrap ((IntKind.u8.wrap (x9.tdiv 16)) + 1))) ?_
        obtain ⟨q12, H⟩ := H
        refine JD.t 7 (Yld.ss ([48, 49, 50, 51, 52, 53, 54, 55, 56, 57, 97, 98, 99, 100, 101, 102] : Str) (some (IntKind.u8.wrap (x9.tdiv 16))) (some (IntKind.u8.wrap ((IntKind.u8.wrap (x9.tdiv 16)) + 1))) q12) ?_
        obtain ⟨q13, H⟩ := H
        refine JD.t 8 (Yld.cc (s1.1 ++ ([92, 120] : Str)) (sub ([48, 49, 50, 51, 52, 53, 54, 55, 56, 57, 97, 98, 99, 100, 101, 102] : Str) (IntKind.u8.wrap (x9.tdiv 16)) (IntKind.u8.wrap ((IntKind.u8.wrap (x9.tdiv 16)) + 1))) q13) ?_
        refine JD.rr 9 (.int .u8 x9) ?_
        refine JD.rr 10 (.int .u8 (x9.tmod 16)) ?_
        refine JD.rr 11 (.int .u8 x9) ?_
        refine JD.rr 12 (.int .u8 (x9.tmod 16)) ?_
        refine JD.rr 13 (.int .u8 (IntKind.u8.wrap ((x9.tmod 16) + 1))) ?_
        obtain ⟨q14, H⟩ := H
        refine JD.t 14 (Yld.ss ([48, 49, 50, 51, 52, 53, 54, 55, 56, 57, 97, 98, 99, 100, 101, 102] : Str) (some (x9.tmod 16)) (some (IntKind.u8.wrap ((x9.tmod 16) + 1))) q14) ?_
        obtain ⟨q15, H⟩ := H
        refine JD.t 15 (Yld.cc ((s1.1 ++ ([92, 120] : Str)) ++ (sub ([48, 49, 50, 51, 52, 53, 54, 55, 56, 57, 97, 98, 99, 100, 101, 102] : Str) (IntKind.u8.wrap (x9.tdiv 16)) (IntKind.u8.wrap ((IntKind.u8.wrap (x9.tdiv 16)) + 1)))) (sub ([48, 49, 50, 51, 52, 53, 54, 55, 56, 57, 97, 98, 99, 100, 101, 102] : Str) (x9.tmod 16) (IntKind.u8.wrap ((x9.tmod 16) + 1))) q15) ?_
        refine JD.rr 16 (.string (ba (((s1.1 ++ ([92, 120] : Str)) ++ (sub ([48, 49, 50, 51, 52, 53, 54, 55, 56, 57, 97, 98, 99, 100, 101, 102] : Str) (IntKind.u8.wrap (x9.tdiv 16)) (IntKind.u8.wrap ((IntKind.u8.wrap (x9.tdiv 16)) + 1)))) ++ (sub ([48, 49, 50, 51, 52, 53, 54, 55, 56, 57, 97, 98, 99, 100, 101, 102] : Str) (x9.tmod 16) (IntKind.u8.wrap ((x9.tmod 16) + 1)))))) ?_
        refine JD.e ?_
        refine JC.next ?_
        refine JC.exit rfl ?_
        exact JK.inv (((s1.1 ++ ([92, 120] : Str)) ++ (sub ([48, 49, 50, 51, 52, 53, 54, 55, 56, 57, 97, 98, 99, 100, 101, 102] : Str) (IntKind.u8.wrap (x9.tdiv 16)) (IntKind.u8.wrap ((IntKind.u8.wrap (x9.tdiv 16)) + 1)))) ++ (sub ([48, 49, 50, 51, 52, 53, 54, 55, 56, 57, 97, 98, 99, 100, 101, 102] : Str) (x9.tmod 16) (IntKind.u8.wrap ((x9.tmod 16) + 1)))) Sub.kk ⟨(KeepB.nil _), H⟩
      · have H := H.2 (hb)
        refine JC.skip (JC.next ?_)
        obtain ⟨k16, H, Hk16⟩ := H
        refine JC.join (S := Str) (fun s17 => [(0, .string (ba s)), (3, .string (ba s17)), (4, .int .i64 s1.2)]) (fun s17 h' => KeepB [] h' ∧ k16 s17 h') ?_ ?_
        · refine JC.seq (JC.region ?_)
          refine JO.p 3 [(39, .bool (x9 == 39))] ?_
          refine JO.jq 6 [(0, .string (ba s)), (3, .string (ba s1.1)), (4, .int .i64 s1.2), (42, .bool ((x9 == 39) || (x9 == 92)))] ?_ ?_
          · refine JO.cs 39 (x9 == 39) (fun hc19 => ?_) (fun hc19 => ?_)
            · refine JO.p 6 [(42, .bool true)] ?_
              refine JO.end_ ?_
              exact JK.invQ (Sub.of (by (try rw [hc19]); first | done | kernel_rfl))
            · refine JO.p 6 [(42, .bool (x9 == 92))] ?_
              refine JO.end_ ?_
              exact JK.invQ (Sub.of (by (try rw [hc19]); first | done | kernel_rfl))
          refine JO.end_ (JC.next ?_)
          refine JC.cd ((x9 == 39) || (x9 == 92)) (fun hb => ?_) (fun hb => ?_)
          · have H := H.1 (hb)
            refine JC.region ?_
            refine JO.p 1 [(43, .string (ba s1.1))] ?_
            obtain ⟨q20, H⟩ := H
            refine JO.y 1 (Yld.cc s1.1 ([92] : Str) q20) ?_
            refine JO.p 3 [(3, .string (ba (s1.1 ++ ([92] : Str))))] ?_
            refine JO.end_ ?_
            exact JK.inv (s1.1 ++ ([92] : Str)) Sub.kk ⟨(KeepB.nil _), H⟩
          · have H := H.2 (hb)
            refine JC.skip ?_
            exact JK.inv s1.1 Sub.kk ⟨(KeepB.nil _), H⟩
        · rintro s17 h18 ⟨hB, hk⟩
          have H := Hk16 s17 h18 hk
          refine JC.region ?_
          refine JO.p 5 [(45, .string (ba s17)), (46, .string (ba s)), (47, .int .i64 s1.2), (49, .int .i64 (IntKind.i64.wrap (s1.2 + 1)))] ?_
          obtain ⟨q21, H⟩ := H
          refine JO.y 5 (Yld.ss s (some s1.2) (some (IntKind.i64.wrap (s1.2 + 1))) q21) ?_
          obtain ⟨q22, H⟩ := H
          refine JO.y 6 (Yld.cc s17 (sub s s1.2 (IntKind.i64.wrap (s1.2 + 1))) q22) ?_
          refine JO.p 8 [(3, .string (ba (s17 ++ (sub s s1.2 (IntKind.i64.wrap (s1.2 + 1))))))] ?_
          refine JO.end_ ?_
          exact JK.inv (s17 ++ (sub s s1.2 (IntKind.i64.wrap (s1.2 + 1)))) Sub.kk ⟨(KeepB.nil _), H⟩
    · rintro s6 h7 ⟨hB, hk⟩
      have H := Hk5 s6 h7 hk
      refine JC.region ?_
      refine JO.p 2 [(11, .int .i64 (IntKind.i64.wrap (s1.2 + 1)))] ?_
      let x23 : Int := IntKind.i64.wrap (s1.2 + 1)
      have H := H x23 rfl
      refine JO.p 3 [(4, .int .i64 x23)] ?_
      refine JO.end_ ?_
      exact JK.inv (s6, x23) Sub.kk ⟨⟨(KeepB.nil _), H.1⟩, H.2⟩
  · have H := H.2 (of_decide_eq_false hb)
    refine JC.exit rfl ?_
    refine JC.next (JC.seq (JC.region ?_))
    refine JO.p 1 [(52, .string (ba s1.1))] ?_
    obtain ⟨q24, H⟩ := H
    refine JO.y 1 (Yld.cc s1.1 ([39] : Str) q24) ?_
    refine JO.p 3 [(2, .string (ba (s1.1 ++ ([39] : Str))))] ?_
    refine JO.end_ (JC.next (JC.ret ?_))
    exact JK.retG1 (.string (ba (s1.1 ++ ([39] : Str)))) rfl RVal.s ⟨s1.1 ++ ([39] : Str), by kernel_rfl, H⟩

def F_text_cursor_is.body (c : Option Addr) (s : Str) (h : Hp) (K : Bool → Hp → Prop) (X : Chain → Hp → Prop) : Prop :=
NilW c (fun (a1 : Addr) => LoadW h (a1.add 0) cS (fun (x2 : Str) => LoadW h (a1.add 1) (cI .i64) (fun (x3 : Int) => (0 ≤ x3 ∧ x3 ≤ (x2.length : Int) ∧ (x2.length : Int) ≤ (x2.length : Int)) ∧ F_strings_HasPrefix.call (sub x2 x3 (x2.length : Int)) s h (fun (r5 : Bool) (h6 : Hp) => (r5 = true → LoadW h6 (a1.add 1) (cI .i64) (fun (x7 : Int) => StoreW h6 (a1.add 1) [.int .i64 (IntKind.i64.wrap (x7 + (s.length : Int)))] (fun (h8 : Hp) => K true h8))) ∧
(r5 = false → K false h6)) X)))
theorem F_text_cursor_is.sound {c : Option Addr} {s : Str} {h : Hp} {K : Bool → Hp → Prop} {X : Chain → Hp → Prop} (H : F_text_cursor_is.body c s h K X) : F_text_cursor_is.call c s h K X := by
  unfold F_text_cursor_is.body at H
  refine CallH.of Tryz.func106 rfl rfl fun w0 hw0 => ?_
  refine JC.seq (JC.region ?_)
  refine JO.p 1 [(4, .bool false)] ?_
  refine JO.end_ (JC.next (JC.seq (JC.seq ?_)))
  refine JC.rd 11 ?_
  refine JD.rr 0 (.pointer c) ?_
  obtain ⟨a1, na1, H⟩ := H
  refine JD.t 1 (Yld.np na1) ?_
  refine JD.rr 2 (.pointer (some (a1.add 0))) ?_
  obtain ⟨x2, lx2, H⟩ := H
  refine JD.hold (HoldS.cells 3 lx2) ?_
  refine JD.t 3 Yld.lh ?_
  refine JD.rr 4 (.pointer c) ?_
  refine JD.t 5 (Yld.np na1) ?_
  refine JD.rr 6 (.pointer (some (a1.add 1))) ?_
  obtain ⟨x3, lx3, H⟩ := H
  refine JD.hold (HoldS.cells 7 lx3) ?_
  refine JD.t 7 Yld.lh ?_
  obtain ⟨q4, H⟩ := H
  refine JD.t 8 (Yld.ss x2 (some x3) none q4) ?_
  refine JD.rr 9 (.string (ba s)) ?_
  refine JD.o 10 (OpOk.c (CallH.mono H ?_ fun _ _ hx => hx))
  rintro _ h6 ⟨r5, rfl, H⟩
  refine ⟨(HoldS.drop 7 10 (HoldS.drop 3 10 HoldS.nil)), ?_⟩
  refine JD.e ?_
  refine JC.next ?_
  refine JC.cd r5 (fun hb => ?_) (fun hb => ?_)
  · have H := H.1 (hb)
    refine JC.seq (JC.region ?_)
    refine JO.p 1 [(16, .pointer c)] ?_
    refine JO.y 1 (Yld.np na1) ?_
    refine JO.p 3 [(18, .pointer (some (a1.add 1)))] ?_
    obtain ⟨x7, lx7, H⟩ := H
    refine JO.y 3 (Yld.le lx7) ?_
    refine JO.p 7 [(22, .int .i64 (IntKind.i64.wrap (x7 + (s.length : Int))))] ?_
    refine JO.y 7 (Yld.np na1) ?_
    refine JO.p 9 [(24, .pointer (some (a1.add 1)))] ?_
    obtain ⟨hs, H⟩ := H
    refine JO.s 9 (OpOk.st [.int .i64 (IntKind.i64.wrap (x7 + (s.length : Int)))] hs ?_)
    intro h8 hh
    have H := H h8 hh
    refine JO.end_ (JC.next (JC.seq (JC.region ?_)))
    refine JO.p 1 [(4, .bool true)] ?_
    refine JO.end_ (JC.next (JC.ret ?_))
    exact JK.retG1 (.bool true) rfl RVal.s ⟨true, by kernel_rfl, H⟩
  · have H := H.2 (hb)
    refine JC.skip (JC.next (JC.seq (JC.region ?_)))
    refine JO.p 1 [(4, .bool false)] ?_
    refine JO.end_ (JC.next (JC.ret ?_))
    exact JK.retG1 (.bool false) rfl RVal.s ⟨false, by kernel_rfl, H⟩

def F_text_cursor_all.body (c : Option Addr) (a1_end : Str) (h : Hp) (K : Sl → Hp → Prop) (X : Chain → Hp → Prop) : Prop :=
F_text_cursor_is.call c a1_end h (fun (r1 : Bool) (h2 : Hp) => (r1 = true → K (⟨none, 0, 0⟩ : Sl) h2) ∧
(r1 = false → F_text_cursor_term.call c h2 (fun (r3 : V_api_Term) (h4 : Hp) => AllocW h4 24 [.int .i64 r3.Kind, .int .i64 r3.N, .string (ba r3.S), sl r3.L] (fun (p5 : Nat) (h6 : Hp) => LoopW (fun (s7 : Sl) h8 next9 =>
F_text_cursor_is.call c ([44] : Str) h8 (fun (r11 : Bool) (h12 : Hp) => (r11 = true → F_text_cursor_term.call c h12 (fun (r13 : V_api_Term) (h14 : Hp) => AllocW h14 24 [.int .i64 r13.Kind, .int .i64 r13.N, .string (ba r13.S), sl r13.L] (fun (p15 : Nat) (h16 : Hp) => AppW h16 24 4 56 [.int .i64 0, .int .i64 0, .string (ba ([] : Str)), sl (⟨none, 0, 0⟩ : Sl)] s7 (⟨some ⟨p15, 0, none⟩, 1, 1⟩ : Sl) (fun (s17 : Sl) (h18 : Hp) => next9 s17 h18))) X) ∧
(r11 = false → F_text_cursor_must.call c a1_end h12 (fun (h19 : Hp) => ((s7.len : Int) > 64 → X [{ v := ifc (some (104, Value.agg #[])), recovered := false }] h19) ∧
(¬ ((s7.len : Int) > 64) → K s7 h19)) X)) X) (⟨some ⟨p5, 0, none⟩, 1, 1⟩ : Sl) h6)) X)) X
theorem F_text_cursor_all.sound {c : Option Addr} {a1_end : Str} {h : Hp} {K : Sl → Hp → Prop} {X : Chain → Hp → Prop} (H : F_text_cursor_all.body c a1_end h K X) : F_text_cursor_all.call c a1_end h K X := by
  unfold F_text_cursor_all.body at H
  refine CallH.of Tryz.func107 rfl rfl fun w0 hw0 => ?_
  refine JC.seq (JC.region ?_)
  refine JO.p 1 [(4, sl (⟨none, 0, 0⟩ : Sl))] ?_
  refine JO.end_ (JC.next (JC.seq (JC.seq (JC.region ?_))))
  refine JO.p 2 [(6, .pointer c), (7, .string (ba a1_end))] ?_
  refine JO.s 2 (OpOk.c (CallH.mono H ?_ fun _ _ hx => hx))
  rintro _ h2 ⟨r1, rfl, H⟩
  refine JO.end_ (JC.next ?_)
  refine JC.cd r1 (fun hb => ?_) (fun hb => ?_)
  · have H := H.1 (hb)
    refine JC.seq (JC.region ?_)
    refine JO.p 1 [(4, sl (⟨none, 0, 0⟩ : Sl))] ?_
    refine JO.end_ (JC.next (JC.ret ?_))
    exact JK.retG1 (sl (⟨none, 0, 0⟩ : Sl)) rfl RVal.s ⟨(⟨none, 0, 0⟩ : Sl), by kernel_rfl, H⟩
  · have H := H.2 (hb)
    refine JC.skip (JC.next (JC.seq (JC.region ?_)))
    refine JO.p 1 [(9, .pointer c)] ?_
    refine JO.s 1 (OpOk.c (CallH.mono H ?_ fun _ _ hx => hx))
    rintro _ h4 ⟨r3, rfl, H⟩
    refine JO.s 2 (OpOk.bs 1 [.int .i64 r3.Kind, .int .i64 r3.N, .string (ba r3.S), sl r3.L] 24 ?_)
    intro p5 h6 hp hh
    have H := H p5 h6 hp hh
    refine JO.p 4 [(5, sl (⟨some ⟨p5, 0, none⟩, 1, 1⟩ : Sl))] ?_
    refine JO.end_ (JC.next (JC.seq (JC.block ?_)))
    obtain ⟨I10, μI10, hI10, H⟩ := H
    refine JC.loop (S := Sl) (fun s7 => [(0, .pointer c), (1, .string (ba a1_end)), (5, sl s7)]) (fun s7 h' => KeepB [] h' ∧ I10 s7 h') μI10 (⟨some ⟨p5, 0, none⟩, 1, 1⟩ : Sl) Sub.kk ⟨KeepB.nil _, hI10⟩ ?_
    rintro s7 h8 ⟨hB, hI⟩
    have H := H s7 h8 hI
    refine JC.seq (JC.seq (JC.region ?_))
    refine JO.p 1 [(12, .pointer c)] ?_
    refine JO.s 1 (OpOk.c (CallH.mono H ?_ fun _ _ hx => hx))
    rintro _ h12 ⟨r11, rfl, H⟩
    refine JO.end_ (JC.next ?_)
    refine JC.cd r11 (fun hb => ?_) (fun hb => ?_)
    · have H := H.1 (hb)
      refine JC.skip (JC.next (JC.block (JC.region ?_)))
      refine JO.p 2 [(14, sl s7), (15, .pointer c)] ?_
      refine JO.s 2 (OpOk.c (CallH.mono H ?_ fun _ _ hx => hx))
      rintro _ h14 ⟨r13, rfl, H⟩
      refine JO.s 3 (OpOk.bs 1 [.int .i64 r13.Kind, .int .i64 r13.N, .string (ba r13.S), sl r13.L] 24 ?_)
      intro p15 h16 hp hh
      have H := H p15 h16 hp hh
      refine JO.s 4 (OpOk.as 24 (.agg #[.int .i64 0, .int .i64 0, .string (ba ([] : Str)), sl (⟨none, 0, 0⟩ : Sl)]) H ?_)
      rintro s17 h18 H
      refine JO.p 6 [(5, sl s17)] ?_
      refine JO.end_ ?_
      exact JK.inv s17 Sub.kk ⟨⟨(KeepB.nil _), H.1⟩, H.2⟩
    · have H := H.2 (hb)
      refine JC.exit rfl ?_
      refine JC.next (JC.seq (JC.region ?_))
      refine JO.p 2 [(19, .pointer c), (20, .string (ba a1_end))] ?_
      refine JO.s 2 (OpOk.c (CallH.mono H ?_ fun _ _ hx => hx))
      rintro _ h19 ⟨rfl, H⟩
      refine JO.end_ (JC.next (JC.seq (JC.seq (JC.region ?_))))
      refine JO.p 3 [(24, .bool (decide ((s7.len : Int) > 64)))] ?_
      refine JO.end_ (JC.next ?_)
      refine JC.cd (decide ((s7.len : Int) > 64)) (fun hb => ?_) (fun hb => ?_)
      · have H := H.1 (of_decide_eq_true hb)
        refine JC.region ?_
        refine JO.p 2 [(26, ifc (some (104, Value.agg #[])))] ?_
        exact JO.s 2 (OpOk.pn H)
      · have H := H.2 (of_decide_eq_false hb)
        refine JC.skip (JC.next (JC.seq (JC.region ?_)))
        refine JO.p 2 [(4, sl s7)] ?_
        refine JO.end_ (JC.next (JC.ret ?_))
        exact JK.retG1 (sl s7) rfl RVal.s ⟨s7, by kernel_rfl, H⟩

def F_text_cursor_list.body (c : Option Addr) (h : Hp) (K : V_api_Term → Hp → Prop) (X : Chain → Hp → Prop) : Prop :=
∀ (p1 : Nat) (p3 : Nat) (h5 : Hp), New p1 h h5 → New p3 h h5 → Ev [p3, p1] h h5 → (LtAll [p3, p1] h5 → F_text_cursor_is.call c ([93] : Str) h5 (fun (r6 : Bool) (h7 : Hp) => SameOn [p3, p1] h5 h7 ∧ (r6 = true → ∀ (h8 : Hp), Ev [p3, p1] h7 h8 → K (⟨8, 0, ([] : Str), (⟨none, 0, 0⟩ : Sl)⟩ : V_api_Term) h8) ∧
(r6 = false → (LtAll [p3, p1] h7 → F_text_cursor_term.call c h7 (fun (r9 : V_api_Term) (h10 : Hp) => SameOn [p3, p1] h7 h10 ∧ AllocW h10 24 [.int .i64 r9.Kind, .int .i64 r9.N, .string (ba r9.S), sl r9.L] (fun (p11 : Nat) (h12 : Hp) => LoopW (fun (s13 : Sl) h14 next15 =>
(LtAll [p3, p1] h14 → F_text_cursor_is.call c ([44] : Str) h14 (fun (r17 : Bool) (h18 : Hp) => SameOn [p3, p1] h14 h18 ∧ (r17 = true → (LtAll [p3, p1] h18 → F_text_cursor_term.call c h18 (fun (r19 : V_api_Term) (h20 : Hp) => SameOn [p3, p1] h18 h20 ∧ AllocW h20 24 [.int .i64 r19.Kind, .int .i64 r19.N, .string (ba r19.S), sl r19.L] (fun (p21 : Nat) (h22 : Hp) => AppW h22 24 4 56 [.int .i64 0, .int .i64 0, .string (ba ([] : Str)), sl (⟨none, 0, 0⟩ : Sl)] s13 (⟨some ⟨p21, 0, none⟩, 1, 1⟩ : Sl) (fun (s23 : Sl) (h24 : Hp) => SameOn [p3, p1] h22 h24 ∧ next15 s23 h24))) X)) ∧
(r17 = false → ∀ (p25 : Nat) (h27 : Hp), New p25 h18 h27 → Ev [p25, p3, p1] h18 h27 → JoinW (fun (k28 : V_api_Term → Hp → Prop) =>
(LtAll [p25, p3, p1] h27 → F_text_cursor_is.call c ([124] : Str) h27 (fun (r31 : Bool) (h32 : Hp) => SameOn [p25, p3, p1] h27 h32 ∧ (r31 = true → (LtAll [p25, p3, p1] h32 → F_text_cursor_term.call c h32 (fun (r33 : V_api_Term) (h34 : Hp) => SameOn [p25, p3, p1] h32 h34 ∧ (((r33.Kind == 9) || (r33.Kind == 8)) = true → ∀ (h35 : Hp), Ev [p25, p3, p1] h34 h35 → X [{ v := ifc (some (104, Value.agg #[])), recovered := false }] h35) ∧
(((r33.Kind == 9) || (r33.Kind == 8)) = false → ∀ (h35 : Hp), Ev [p25, p3, p1] h34 h35 → k28 r33 h35)) X)) ∧
(r31 = false → k28 (⟨8, 0, ([] : Str), (⟨none, 0, 0⟩ : Sl)⟩ : V_api_Term) h32)) X)) (fun (s29 : V_api_Term) h30 =>
(LtAll [p25, p3, p1] h30 → F_text_cursor_must.call c ([93] : Str) h30 (fun (h37 : Hp) => SameOn [p25, p3, p1] h30 h37 ∧ (LtAll [p25, p3, p1] h37 → F_term_MakeList.call s13 s29 h37 (fun (r38 : V_api_Term) (h39 : Hp) => SameOn [p25, p3, p1] h37 h39 ∧ ∀ (h40 : Hp), Ev [p25, p3, p1] h39 h40 → K r38 h40) X)) X)))) X)) (⟨some ⟨p11, 0, none⟩, 1, 1⟩ : Sl) h12)) X))) X)
theorem F_text_cursor_list.sound {c : Option Addr} {h : Hp} {K : V_api_Term → Hp → Prop} {X : Chain → Hp → Prop} (H : F_text_cursor_list.body c h K X) : F_text_cursor_list.call c h K X := by
  unfold F_text_cursor_list.body at H
  refine CallH.of Tryz.func108 rfl rfl fun w0 hw0 => ?_
  refine JC.seq (JC.region ?_)
  refine JO.s 0 (OpOk.bp [.int .i64 0, .int .i64 0, .string (ba ([] : Str)), sl (⟨none, 0, 0⟩ : Sl)] 24 ?_)
  intro p1 h2 hp hh
  have hE := Ev.refl [] h
  have hB := KeepB.nil h
  have hNp1 : Array.size h ≤ p1 := hp ▸ hE.size
  have hB : KeepB [(p1, .cells #[.int .i64 0, .int .i64 0, .string (ba ([] : Str)), sl (⟨none, 0, 0⟩ : Sl)] 24 (0, 0))] h2 := hB.push hp hh
  have hE := hE.push hp hh
  refine JO.end_ (JC.next (JC.seq (JC.region ?_)))
  refine JO.p 1 [(6, .agg #[.int .i64 8, .int .i64 0, .string (ba ([] : Str)), sl (⟨none, 0, 0⟩ : Sl)])] ?_
  refine JO.s 1 (OpOk.bp [.int .i64 0, .int .i64 0, .string (ba ([] : Str)), sl (⟨none, 0, 0⟩ : Sl)] 24 ?_)
  intro p3 h4 hp hh
  have hNp3 : Array.size h ≤ p3 := hp ▸ hE.size
  have hB : KeepB [(p3, .cells #[.int .i64 0, .int .i64 0, .string (ba ([] : Str)), sl (⟨none, 0, 0⟩ : Sl)] 24 (0, 0)), (p1, .cells #[.int .i64 0, .int .i64 0, .string (ba ([] : Str)), sl (⟨none, 0, 0⟩ : Sl)] 24 (0, 0))] h4 := hB.push hp hh
  have hE := hE.push hp hh
  refine JO.s 2 (OpOk.st [.int .i64 8, .int .i64 0, .string (ba ([] : Str)), sl (⟨none, 0, 0⟩ : Sl)] (KeepB.st hB 0 0 4) ?_)
  intro h5 hh
  have hE := hE.set hh (by simp [add_block])
  have hB : KeepB [(p3, .cells #[.int .i64 8, .int .i64 0, .string (ba ([] : Str)), sl (⟨none, 0, 0⟩ : Sl)] 24 (0, 0)), (p1, .cells #[.int .i64 0, .int .i64 0, .string (ba ([] : Str)), sl (⟨none, 0, 0⟩ : Sl)] 24 (0, 0))] h5 := hB.set 0 rfl (off := 0) rfl hh
  refine JO.end_ (JC.next (JC.seq (JC.seq (JC.region ?_))))
  refine JO.p 1 [(7, .pointer c)] ?_
  have H := H p1 p3 h5 ⟨hNp1, hB.l 1⟩ ⟨hNp3, hB.l 0⟩ hE
  have hE := Ev.refl [p3, p1] h5
  have H := H hB.ltAll
  refine JO.s 1 (OpOk.c (CallH.mono H ?_ fun _ _ hx => hx))
  rintro _ h7 ⟨r6, rfl, hS, H⟩
  have hB := hB.same hS
  have hE := Ev.refl [p3, p1] h7
  refine JO.end_ (JC.next ?_)
  refine JC.cd r6 (fun hb => ?_) (fun hb => ?_)
  · have H := H.1 (hb)
    refine JC.seq (JC.region ?_)
    refine JO.y 0 (Yld.lne (KeepB.c hB 0 0 [.int .i64 8, .int .i64 0, .string (ba ([] : Str)), sl (⟨none, 0, 0⟩ : Sl)])) ?_
    refine JO.s 1 (OpOk.st [.int .i64 8, .int .i64 0, .string (ba ([] : Str)), sl (⟨none, 0, 0⟩ : Sl)] (KeepB.st hB 1 0 4) ?_)
    intro h8 hh
    have hE := hE.set hh (by simp [add_block])
    have hB : KeepB [(p3, .cells #[.int .i64 8, .int .i64 0, .string (ba ([] : Str)), sl (⟨none, 0, 0⟩ : Sl)] 24 (0, 0)), (p1, .cells #[.int .i64 8, .int .i64 0, .string (ba ([] : Str)), sl (⟨none, 0, 0⟩ : Sl)] 24 (0, 0))] h8 := hB.set 1 rfl (off := 0) rfl hh
    refine JO.end_ (JC.next (JC.ret ?_))
    have H := H h8 hE
    have hE := Ev.refl [p3, p1] h8
    exact JK.retG1 (.agg #[.int .i64 8, .int .i64 0, .string (ba ([] : Str)), sl (⟨none, 0, 0⟩ : Sl)]) rfl (RVal.bN p1 24 hB 1) ⟨(⟨8, 0, ([] : Str), (⟨none, 0, 0⟩ : Sl)⟩ : V_api_Term), by kernel_rfl, H⟩
  · have H := H.2 (hb)
    refine JC.skip (JC.next (JC.seq (JC.region ?_)))
    refine JO.p 1 [(10, .pointer c)] ?_
    have H := H hB.ltAll
    refine JO.s 1 (OpOk.c (CallH.mono H ?_ fun _ _ hx => hx))
    rintro _ h10 ⟨r9, rfl, hS, H⟩
    have hB := hB.same hS
    have hE := Ev.refl [p3, p1] h10
    refine JO.s 2 (OpOk.bs 1 [.int .i64 r9.Kind, .int .i64 r9.N, .string (ba r9.S), sl r9.L] 24 ?_)
    intro p11 h12 hp hh
    have H := H p11 h12 hp hh
    have hB := hB.grow hh
    have hE := Ev.refl [p3, p1] h12
    refine JO.p 4 [(4, sl (⟨some ⟨p11, 0, none⟩, 1, 1⟩ : Sl))] ?_
    refine JO.end_ (JC.next (JC.seq (JC.block ?_)))
    obtain ⟨I16, μI16, hI16, H⟩ := H
    refine JC.loop (S := Sl) (fun s13 => [(0, .pointer c), (2, .pointer (some ⟨p1, 0, none⟩)), (3, .pointer (some ⟨p3, 0, none⟩)), (4, sl s13)]) (fun s13 h' => KeepB [(p3, .cells #[.int .i64 8, .int .i64 0, .string (ba ([] : Str)), sl (⟨none, 0, 0⟩ : Sl)] 24 (0, 0)), (p1, .cells #[.int .i64 0, .int .i64 0, .string (ba ([] : Str)), sl (⟨none, 0, 0⟩ : Sl)] 24 (0, 0))] h' ∧ I16 s13 h') μI16 (⟨some ⟨p11, 0, none⟩, 1, 1⟩ : Sl) Sub.kk ⟨hB, hI16⟩ ?_
    rintro s13 h14 ⟨hB, hI⟩
    have H := H s13 h14 hI
    have hE := Ev.refl [p3, p1] h14
    refine JC.seq (JC.seq (JC.region ?_))
    refine JO.p 1 [(13, .pointer c)] ?_
    have H := H hB.ltAll
    refine JO.s 1 (OpOk.c (CallH.mono H ?_ fun _ _ hx => hx))
    rintro _ h18 ⟨r17, rfl, hS, H⟩
    have hB := hB.same hS
    have hE := Ev.refl [p3, p1] h18
    refine JO.end_ (JC.next ?_)
    refine JC.cd r17 (fun hb => ?_) (fun hb => ?_)
    · have H := H.1 (hb)
      refine JC.skip (JC.next (JC.block (JC.region ?_)))
      refine JO.p 2 [(15, sl s13), (16, .pointer c)] ?_
      have H := H hB.ltAll
      refine JO.s 2 (OpOk.c (CallH.mono H ?_ fun _ _ hx => hx))
      rintro _ h20 ⟨r19, rfl, hS, H⟩
      have hB := hB.same hS
      have hE := Ev.refl [p3, p1] h20
      refine JO.s 3 (OpOk.bs 1 [.int .i64 r19.Kind, .int .i64 r19.N, .string (ba r19.S), sl r19.L] 24 ?_)
      intro p21 h22 hp hh
      have H := H p21 h22 hp hh
      have hB := hB.grow hh
      have hE := Ev.refl [p3, p1] h22
      refine JO.s 4 (OpOk.as 24 (.agg #[.int .i64 0, .int .i64 0, .string (ba ([] : Str)), sl (⟨none, 0, 0⟩ : Sl)]) H ?_)
      rintro s23 h24 ⟨hS, H⟩
      have hB := hB.same hS
      have hE := Ev.refl [p3, p1] h24
      refine JO.p 6 [(4, sl s23)] ?_
      refine JO.end_ ?_
      exact JK.inv s23 Sub.kk ⟨⟨hB, H.1⟩, H.2⟩
    · have H := H.2 (hb)
      refine JC.exit rfl ?_
      refine JC.next (JC.seq (JC.region ?_))
      refine JO.y 0 (Yld.lne (KeepB.c hB 0 0 [.int .i64 8, .int .i64 0, .string (ba ([] : Str)), sl (⟨none, 0, 0⟩ : Sl)])) ?_
      refine JO.s 1 (OpOk.bp [.int .i64 0, .int .i64 0, .string (ba ([] : Str)), sl (⟨none, 0, 0⟩ : Sl)] 24 ?_)
      intro p25 h26 hp hh
      have hNp25 : Array.size h18 ≤ p25 := hp ▸ hE.size
      have hB : KeepB [(p25, .cells #[.int .i64 0, .int .i64 0, .string (ba ([] : Str)), sl (⟨none, 0, 0⟩ : Sl)] 24 (0, 0)), (p3, .cells #[.int .i64 8, .int .i64 0, .string (ba ([] : Str)), sl (⟨none, 0, 0⟩ : Sl)] 24 (0, 0)), (p1, .cells #[.int .i64 0, .int .i64 0, .string (ba ([] : Str)), sl (⟨none, 0, 0⟩ : Sl)] 24 (0, 0))] h26 := hB.push hp hh
      have hE := hE.push hp hh
      refine JO.s 2 (OpOk.st [.int .i64 8, .int .i64 0, .string (ba ([] : Str)), sl (⟨none, 0, 0⟩ : Sl)] (KeepB.st hB 0 0 4) ?_)
      intro h27 hh
      have hE := hE.set hh (by simp [add_block])
      have hB : KeepB [(p25, .cells #[.int .i64 8, .int .i64 0, .string (ba ([] : Str)), sl (⟨none, 0, 0⟩ : Sl)] 24 (0, 0)), (p3, .cells #[.int .i64 8, .int .i64 0, .string (ba ([] : Str)), sl (⟨none, 0, 0⟩ : Sl)] 24 (0, 0)), (p1, .cells #[.int .i64 0, .int .i64 0, .string (ba ([] : Str)), sl (⟨none, 0, 0⟩ : Sl)] 24 (0, 0))] h27 := hB.set 0 rfl (off := 0) rfl hh
      refine JO.end_ (JC.next ?_)
      have H := H p25 h27 ⟨hNp25, hB.l 0⟩ hE
      have hE := Ev.refl [p25, p3, p1] h27
      obtain ⟨k28, H, Hk28⟩ := H
      refine JC.join (S := V_api_Term) (fun s29 => [(0, .pointer c), (2, .pointer (some ⟨p1, 0, none⟩)), (4, sl s13), (5, .pointer (some ⟨p25, 0, none⟩))]) (fun s29 h' => KeepB [(p25, .cells #[.int .i64 s29.Kind, .int .i64 s29.N, .string (ba s29.S), sl s29.L] 24 (0, 0)), (p3, .cells #[.int .i64 8, .int .i64 0, .string (ba ([] : Str)), sl (⟨none, 0, 0⟩ : Sl)] 24 (0, 0)), (p1, .cells #[.int .i64 0, .int .i64 0, .string (ba ([] : Str)), sl (⟨none, 0, 0⟩ : Sl)] 24 (0, 0))] h' ∧ k28 s29 h') ?_ ?_
      · refine JC.seq (JC.region ?_)
        refine JO.p 1 [(21, .pointer c)] ?_
        have H := H hB.ltAll
        refine JO.s 1 (OpOk.c (CallH.mono H ?_ fun _ _ hx => hx))
        rintro _ h32 ⟨r31, rfl, hS, H⟩
        have hB := hB.same hS
        have hE := Ev.refl [p25, p3, p1] h32
        refine JO.end_ (JC.next ?_)
        refine JC.cd r31 (fun hb => ?_) (fun hb => ?_)
        · have H := H.1 (hb)
          refine JC.seq (JC.region ?_)
          refine JO.p 1 [(23, .pointer c)] ?_
          have H := H hB.ltAll
          refine JO.s 1 (OpOk.c (CallH.mono H ?_ fun _ _ hx => hx))
          rintro _ h34 ⟨r33, rfl, hS, H⟩
          have hB := hB.same hS
          have hE := Ev.refl [p25, p3, p1] h34
          refine JO.s 2 (OpOk.st [.int .i64 r33.Kind, .int .i64 r33.N, .string (ba r33.S), sl r33.L] (KeepB.st hB 0 0 4) ?_)
          intro h35 hh
          have hE := hE.set hh (by simp [add_block])
          have hB : KeepB [(p25, .cells #[.int .i64 r33.Kind, .int .i64 r33.N, .string (ba r33.S), sl r33.L] 24 (0, 0)), (p3, .cells #[.int .i64 8, .int .i64 0, .string (ba ([] : Str)), sl (⟨none, 0, 0⟩ : Sl)] 24 (0, 0)), (p1, .cells #[.int .i64 0, .int .i64 0, .string (ba ([] : Str)), sl (⟨none, 0, 0⟩ : Sl)] 24 (0, 0))] h35 := hB.set 0 rfl (off := 0) rfl hh
          refine JO.end_ (JC.next (JC.seq (JC.region ?_)))
          refine JO.p 1 [(25, .pointer (some ((⟨p25, 0, none⟩ : Addr).add 0)))] ?_
          refine JO.y 1 (Yld.le (KeepB.c hB 0 0 [.int .i64 r33.Kind])) ?_
          refine JO.p 4 [(28, .bool (r33.Kind == 9))] ?_
          refine JO.jq 8 [(0, .pointer c), (2, .pointer (some ⟨p1, 0, none⟩)), (4, sl s13), (5, .pointer (some ⟨p25, 0, none⟩)), (32, .bool ((r33.Kind == 9) || (r33.Kind == 8)))] ?_ ?_
          · refine JO.cs 28 (r33.Kind == 9) (fun hc36 => ?_) (fun hc36 => ?_)
            · refine JO.p 8 [(32, .bool true)] ?_
              refine JO.end_ ?_
              exact JK.invQ (Sub.of (by (try rw [hc36]); first | done | kernel_rfl))
            · refine JO.p 5 [(29, .pointer (some ((⟨p25, 0, none⟩ : Addr).add 0)))] ?_
              refine JO.y 5 (Yld.le (KeepB.c hB 0 0 [.int .i64 r33.Kind])) ?_
              refine JO.p 8 [(32, .bool (r33.Kind == 8))] ?_
              refine JO.end_ ?_
              exact JK.invQ (Sub.of (by (try rw [hc36]); first | done | kernel_rfl))
          refine JO.end_ (JC.next ?_)
          refine JC.cd ((r33.Kind == 9) || (r33.Kind == 8)) (fun hb => ?_) (fun hb => ?_)
          · have H := H.1 (hb)
            refine JC.region ?_
            refine JO.p 2 [(34, ifc (some (104, Value.agg #[])))] ?_
            have H := H h35 hE
            have hE := Ev.refl [p25, p3, p1] h35
            exact JO.s 2 (OpOk.pn H)
          · have H := H.2 (hb)
            refine JC.skip ?_
            have H := H h35 hE
            have hE := Ev.refl [p25, p3, p1] h35
            exact JK.inv r33 Sub.kk ⟨hB, H⟩
        · have H := H.2 (hb)
          refine JC.skip ?_
          exact JK.inv (⟨8, 0, ([] : Str), (⟨none, 0, 0⟩ : Sl)⟩ : V_api_Term) Sub.kk ⟨hB, H⟩
      · rintro s29 h30 ⟨hB, hk⟩
        have H := Hk28 s29 h30 hk
        have hE := Ev.refl [p25, p3, p1] h30
        refine JC.seq (JC.region ?_)
        refine JO.p 1 [(35, .pointer c)] ?_
        have H := H hB.ltAll
        refine JO.s 1 (OpOk.c (CallH.mono H ?_ fun _ _ hx => hx))
        rintro _ h37 ⟨rfl, hS, H⟩
        have hB := hB.same hS
        have hE := Ev.refl [p25, p3, p1] h37
        refine JO.end_ (JC.next (JC.seq (JC.region ?_)))
        refine JO.p 1 [(37, sl s13)] ?_
        refine JO.y 1 (Yld.lne (KeepB.c hB 0 0 [.int .i64 s29.Kind, .int .i64 s29.N, .string (ba s29.S), sl s29.L])) ?_
        have H := H hB.ltAll
        refine JO.s 2 (OpOk.c (CallH.mono H ?_ fun _ _ hx => hx))
        rintro _ h39 ⟨r38, rfl, hS, H⟩
        have hB := hB.same hS
        have hE := Ev.refl [p25, p3, p1] h39
        refine JO.s 3 (OpOk.st [.int .i64 r38.Kind, .int .i64 r38.N, .string (ba r38.S), sl r38.L] (KeepB.st hB 2 0 4) ?_)
        intro h40 hh
        have hE := hE.set hh (by simp [add_block])
        have hB : KeepB [(p25, .cells #[.int .i64 s29.Kind, .int .i64 s29.N, .string (ba s29.S), sl s29.L] 24 (0, 0)), (p3, .cells #[.int .i64 8, .int .i64 0, .string (ba ([] : Str)), sl (⟨none, 0, 0⟩ : Sl)] 24 (0, 0)), (p1, .cells #[.int .i64 r38.Kind, .int .i64 r38.N, .string (ba r38.S), sl r38.L] 24 (0, 0))] h40 := hB.set 2 rfl (off := 0) rfl hh
        refine JO.end_ (JC.next (JC.ret ?_))
        have H := H h40 hE
        have hE := Ev.refl [p25, p3, p1] h40
        exact JK.retG1 (.agg #[.int .i64 r38.Kind, .int .i64 r38.N, .string (ba r38.S), sl r38.L]) rfl (RVal.bN p1 24 hB 2) ⟨r38, by kernel_rfl, H⟩

def F_text_cursor_quoted.body (c : Option Addr) (h : Hp) (K : V_api_Term → Hp → Prop) (X : Chain → Hp → Prop) : Prop :=
NilW c (fun (a3 : Addr) => ∀ (p1 : Nat) (h2 : Hp), New p1 h h2 → Ev [p1] h h2 → LoadW h2 (a3.add 1) (cI .i64) (fun (x4 : Int) => ∀ (x5 : Int), x5 = IntKind.i64.wrap (x4 - 1) → LoopW (fun (s6 : Sl) h7 next8 =>
(LtAll [p1] h7 → F_text_cursor_byteOf.call c h7 (fun (r10 : Int) (r11 : Bool) (h12 : Hp) => SameOn [p1] h7 h12 ∧ ((!r11) = true → StrW h12 s6 (fun (x13 : Str) => JoinW (fun (k14 : Bool → Hp → Prop) =>
((x13.length : Int) > 64 → k14 true h12) ∧
(¬ ((x13.length : Int) > 64) → (LtAll [p1] h12 → F_text_Plain.call x13 h12 (fun (r18 : Bool) (h19 : Hp) => SameOn [p1] h12 h19 ∧ (r18 = true → k14 true h19) ∧
(r18 = false → LoadW h19 (a3.add 0) cS (fun (x21 : Str) => LoadW h19 (a3.add 1) (cI .i64) (fun (x22 : Int) => (0 ≤ x5 ∧ x5 ≤ x22 ∧ x22 ≤ (x21.length : Int)) ∧ (LtAll [p1] h19 → F_text_quoted.call x13 h19 (fun (r24 : Str) (h25 : Hp) => SameOn [p1] h19 h25 ∧ hcells h25 (a3.add 1) [.int .i64 x22] ∧ hcells h25 (a3.add 0) [.string (ba x21)] ∧ k14 (cmpS .neq r24 (sub x21 x5 x22)) h25) X))))) X))) (fun (s15 : Bool) h16 =>
(s15 = true → X [{ v := ifc (some (104, Value.agg #[])), recovered := false }] h16) ∧
(s15 = false → ∀ (h28 : Hp), Ev [p1] h16 h28 → K (⟨2, 0, x13, (⟨none, 0, 0⟩ : Sl)⟩ : V_api_Term) h28)))) ∧
((!r11) = false → AllocW h12 5 [.int .u8 r10] (fun (p29 : Nat) (h30 : Hp) => AppW h30 5 1 1 [.int .u8 0] s6 (⟨some ⟨p29, 0, none⟩, 1, 1⟩ : Sl) (fun (s31 : Sl) (h32 : Hp) => SameOn [p1] h30 h32 ∧ next8 s31 h32)))) X)) (⟨none, 0, 0⟩ : Sl) h2))
theorem F_text_cursor_quoted.sound {c : Option Addr} {h : Hp} {K : V_api_Term → Hp → Prop} {X : Chain → Hp → Prop} (H : F_text_cursor_quoted.body c h K X) : F_text_cursor_quoted.call c h K X := by
  unfold F_text_cursor_quoted.body at H
  refine CallH.of Tryz.func109 rfl rfl fun w0 hw0 => ?_
  refine JC.seq (JC.region ?_)
  refine JO.s 0 (OpOk.bp [.int .i64 0, .int .i64 0, .string (ba ([] : Str)), sl (⟨none, 0, 0⟩ : Sl)] 24 ?_)
  intro p1 h2 hp hh
  have hE := Ev.refl [] h
  have hB := KeepB.nil h
  have hNp1 : Array.size h ≤ p1 := hp ▸ hE.size
  have hB : KeepB [(p1, .cells #[.int .i64 0, .int .i64 0, .string (ba ([] : Str)), sl (⟨none, 0, 0⟩ : Sl)] 24 (0, 0))] h2 := hB.push hp hh
  have hE := hE.push hp hh
  refine JO.end_ (JC.next (JC.seq (JC.region ?_)))
  refine JO.p 1 [(8, .pointer c)] ?_
  obtain ⟨a3, na3, H⟩ := H
  refine JO.y 1 (Yld.np na3) ?_
  refine JO.p 3 [(10, .pointer (some (a3.add 1)))] ?_
  have H := H p1 h2 ⟨hNp1, hB.l 0⟩ hE
  have hE := Ev.refl [p1] h2
  obtain ⟨x4, lx4, H⟩ := H
  refine JO.y 3 (Yld.le lx4) ?_
  refine JO.p 5 [(12, .int .i64 (IntKind.i64.wrap (x4 - 1)))] ?_
  let x5 : Int := IntKind.i64.wrap (x4 - 1)
  have H := H x5 rfl
  refine JO.p 6 [(3, .int .i64 x5)] ?_
  refine JO.end_ (JC.next (JC.seq (JC.region ?_)))
  refine JO.p 1 [(4, sl (⟨none, 0, 0⟩ : Sl))] ?_
  refine JO.end_ (JC.next (JC.seq (JC.block ?_)))
  obtain ⟨I9, μI9, hI9, H⟩ := H
  refine JC.loop (S := Sl) (fun s6 => [(0, .pointer c), (2, .pointer (some ⟨p1, 0, none⟩)), (3, .int .i64 x5), (4, sl s6)]) (fun s6 h' => KeepB [(p1, .cells #[.int .i64 0, .int .i64 0, .string (ba ([] : Str)), sl (⟨none, 0, 0⟩ : Sl)] 24 (0, 0))] h' ∧ I9 s6 h') μI9 (⟨none, 0, 0⟩ : Sl) Sub.kk ⟨hB, hI9⟩ ?_
  rintro s6 h7 ⟨hB, hI⟩
  have H := H s6 h7 hI
  have hE := Ev.refl [p1] h7
  refine JC.block (JC.seq (JC.region ?_))
  refine JO.p 1 [(14, .pointer c)] ?_
  have H := H hB.ltAll
  refine JO.s 1 (OpOk.c (CallH.mono H ?_ fun _ _ hx => hx))
  rintro _ h12 ⟨r10, r11, rfl, hS, H⟩
  have hB := hB.same hS
  have hE := Ev.refl [p1] h12
  refine JO.p 7 [(5, .int .u8 r10), (6, .bool r11)] ?_
  refine JO.end_ (JC.next (JC.seq (JC.seq (JC.region ?_))))
  refine JO.p 2 [(19, .bool (!r11))] ?_
  refine JO.end_ (JC.next ?_)
  refine JC.cd (!r11) (fun hb => ?_) (fun hb => ?_)
  · have H := H.1 (hb)
    refine JC.exit rfl ?_
    refine JC.next (JC.seq (JC.region ?_))
    refine JO.p 1 [(24, sl s6)] ?_
    obtain ⟨x13, h_1, h_2, H⟩ := H
    refine JO.y 1 (Yld.sb 5 h_1 h_2) ?_
    refine JO.p 3 [(7, .string (ba x13))] ?_
    refine JO.end_ (JC.next (JC.seq (JC.seq ?_)))
    obtain ⟨k14, H, Hk14⟩ := H
    refine JC.via (S := Bool) (fun s15 => [(2, .pointer (some ⟨p1, 0, none⟩)), (7, .string (ba x13)), (47, .bool s15)]) (fun s15 h' => KeepB [(p1, .cells #[.int .i64 0, .int .i64 0, .string (ba ([] : Str)), sl (⟨none, 0, 0⟩ : Sl)] 24 (0, 0))] h' ∧ k14 s15 h') ?_ ?_
    · refine JC.rd 22 ?_
      refine JD.rr 0 (.string (ba x13)) ?_
      refine JD.rr 1 (.int .i64 (x13.length : Int)) ?_
      refine JD.rr 2 (.bool (decide ((x13.length : Int) > 64))) ?_
      refine JD.rr 3 (.bool (decide ((x13.length : Int) > 64))) ?_
      refine JD.cs 29 (decide ((x13.length : Int) > 64)) (fun hc17 => ?_) (fun hc17 => ?_)
      · have H := H.1 (of_decide_eq_true hc17)
        refine JD.k 4 ?_
        refine JD.k 5 ?_
        refine JD.rr 6 (.bool true) ?_
        refine JD.rr 7 (.bool true) ?_
        refine JD.k 8 ?_
        refine JD.k 9 ?_
        refine JD.k 10 ?_
        refine JD.k 11 ?_
        refine JD.k 12 ?_
        refine JD.k 13 ?_
        refine JD.k 14 ?_
        refine JD.k 15 ?_
        refine JD.k 16 ?_
        refine JD.k 17 ?_
        refine JD.k 18 ?_
        refine JD.k 19 ?_
        refine JD.k 20 ?_
        refine JD.rr 21 (.bool true) ?_
        refine JD.e ?_
        exact JK.inv true (Sub.of (by skip; (try rw [hc17]); first | done | kernel_rfl)) ⟨hB, H⟩
      · have H := H.2 (of_decide_eq_false hc17)
        refine JD.rr 4 (.string (ba x13)) ?_
        have H := H hB.ltAll
        refine JD.o 5 (OpOk.c (CallH.mono H ?_ fun _ _ hx => hx))
        rintro _ h19 ⟨r18, rfl, hS, H⟩
        have hB := hB.same hS
        have hE := Ev.refl [p1] h19
        refine ⟨HoldS.nil, ?_⟩
        refine JD.rr 6 (.bool r18) ?_
        refine JD.rr 7 (.bool r18) ?_
        refine JD.cs 33 r18 (fun hc20 => ?_) (fun hc20 => ?_)
        · have H := H.1 (hc20)
          refine JD.k 8 ?_
          refine JD.k 9 ?_
          refine JD.k 10 ?_
          refine JD.k 11 ?_
          refine JD.k 12 ?_
          refine JD.k 13 ?_
          refine JD.k 14 ?_
          refine JD.k 15 ?_
          refine JD.k 16 ?_
          refine JD.k 17 ?_
          refine JD.k 18 ?_
          refine JD.k 19 ?_
          refine JD.k 20 ?_
          refine JD.rr 21 (.bool true) ?_
          refine JD.e ?_
          exact JK.inv true (Sub.of (by skip; (try rw [hc17]); (try rw [hc20]); first | done | kernel_rfl)) ⟨hB, H⟩
        · have H := H.2 (hc20)
          refine JD.rr 8 (.string (ba x13)) ?_
          refine JD.rr 10 (.pointer c) ?_
          refine JD.t 11 (Yld.np na3) ?_
          refine JD.rr 12 (.pointer (some (a3.add 0))) ?_
          obtain ⟨x21, lx21, H⟩ := H
          refine JD.hold (HoldS.cells 13 lx21) ?_
          refine JD.t 13 Yld.lh ?_
          refine JD.rr 14 (.int .i64 x5) ?_
          refine JD.rr 15 (.pointer c) ?_
          refine JD.t 16 (Yld.np na3) ?_
          refine JD.rr 17 (.pointer (some (a3.add 1))) ?_
          obtain ⟨x22, lx22, H⟩ := H
          refine JD.hold (HoldS.cells 18 lx22) ?_
          refine JD.t 18 Yld.lh ?_
          obtain ⟨q23, H⟩ := H
          refine JD.t 19 (Yld.ss x21 (some x5) (some x22) q23) ?_
          have H := H hB.ltAll
          refine JD.o 9 (OpOk.c (CallH.mono H ?_ fun _ _ hx => hx))
          rintro _ h25 ⟨r24, rfl, hS, hL0, hL1, H⟩
          have hB := hB.same hS
          have hE := Ev.refl [p1] h25
          have l26 := hL0
          have l27 := hL1
          refine ⟨(HoldS.cells 18 l26 (HoldS.cells 13 l27 HoldS.nil)), ?_⟩
          refine JD.t 20 (Yld.cp .neq r24 (sub x21 x5 x22)) ?_
          refine JD.rr 21 (.bool (cmpS .neq r24 (sub x21 x5 x22))) ?_
          refine JD.e ?_
          exact JK.inv (cmpS .neq r24 (sub x21 x5 x22)) (Sub.of (by skip; (try rw [hc17]); (try rw [hc20]); first | done | kernel_rfl)) ⟨hB, H⟩
    rintro s15 h16 ⟨hB, hk⟩
    have H := Hk14 s15 h16 hk
    have hE := Ev.refl [p1] h16
    refine JC.next ?_
    refine JC.cd s15 (fun hb => ?_) (fun hb => ?_)
    · have H := H.1 (hb)
      refine JC.region ?_
      refine JO.p 2 [(49, ifc (some (104, Value.agg #[])))] ?_
      exact JO.s 2 (OpOk.pn H)
    · have H := H.2 (hb)
      refine JC.skip (JC.next (JC.seq (JC.region ?_)))
      refine JO.p 2 [(51, .agg #[.int .i64 2, .int .i64 0, .string (ba x13), sl (⟨none, 0, 0⟩ : Sl)])] ?_
      refine JO.s 2 (OpOk.st [.int .i64 2, .int .i64 0, .string (ba x13), sl (⟨none, 0, 0⟩ : Sl)] (KeepB.st hB 0 0 4) ?_)
      intro h28 hh
      have hE := hE.set hh (by simp [add_block])
      have hB : KeepB [(p1, .cells #[.int .i64 2, .int .i64 0, .string (ba x13), sl (⟨none, 0, 0⟩ : Sl)] 24 (0, 0))] h28 := hB.set 0 rfl (off := 0) rfl hh
      refine JO.end_ (JC.next (JC.ret ?_))
      have H := H h28 hE
      have hE := Ev.refl [p1] h28
      exact JK.retG1 (.agg #[.int .i64 2, .int .i64 0, .string (ba x13), sl (⟨none, 0, 0⟩ : Sl)]) rfl (RVal.bN p1 24 hB 0) ⟨(⟨2, 0, x13, (⟨none, 0, 0⟩ : Sl)⟩ : V_api_Term), by kernel_rfl, H⟩
  · have H := H.2 (hb)
    refine JC.skip (JC.next (JC.region ?_))
    refine JO.p 2 [(20, sl s6), (21, .int .u8 r10)] ?_
    refine JO.s 2 (OpOk.bs 1 [.int .u8 r10] 5 ?_)
    intro p29 h30 hp hh
    have H := H p29 h30 hp hh
    have hB := hB.grow hh
    have hE := Ev.refl [p1] h30
    refine JO.s 3 (OpOk.as 5 (.int .u8 0) H ?_)
    rintro s31 h32 ⟨hS, H⟩
    have hB := hB.same hS
    have hE := Ev.refl [p1] h32
    refine JO.p 5 [(4, sl s31)] ?_
    refine JO.end_ ?_
    exact JK.inv s31 Sub.kk ⟨⟨hB, H.1⟩, H.2⟩

def F_text_cursor_named.body (c : Option Addr) (kind : Int) (a2_end : Str) (h : Hp) (K : V_api_Term → Hp → Prop) (X : Chain → Hp → Prop) : Prop :=
∀ (p1 : Nat) (h2 : Hp), New p1 h h2 → Ev [p1] h h2 → (LtAll [p1] h2 → F_text_cursor_number.call c 0 1073741824 h2 (fun (r3 : Int) (h4 : Hp) => SameOn [p1] h2 h4 ∧ ∀ (p5 : Nat) (h7 : Hp), New p5 h4 h7 → Ev [p5, p1] h4 h7 → (LtAll [p5, p1] h7 → F_text_cursor_must.call c a2_end h7 (fun (h8 : Hp) => SameOn [p5, p1] h7 h8 ∧ ∀ (h9 : Hp), Ev [p5, p1] h8 h9 → K (⟨kind, r3, ([] : Str), (⟨none, 0, 0⟩ : Sl)⟩ : V_api_Term) h9) X)) X)
theorem F_text_cursor_named.sound {c : Option Addr} {kind : Int} {a2_end : Str} {h : Hp} {K : V_api_Term → Hp → Prop} {X : Chain → Hp → Prop} (H : F_text_cursor_named.body c kind a2_end h K X) : F_text_cursor_named.call c kind a2_end h K X := by
  unfold F_text_cursor_named.body at H
  refine CallH.of Tryz.func110 rfl rfl fun w0 hw0 => ?_
  refine JC.seq (JC.region ?_)
  refine JO.s 0 (OpOk.bp [.int .i64 0, .int .i64 0, .string (ba ([] : Str)), sl (⟨none, 0, 0⟩ : Sl)] 24 ?_)
  intro p1 h2 hp hh
  have hE := Ev.refl [] h
  have hB := KeepB.nil h
  have hNp1 : Array.size h ≤ p1 := hp ▸ hE.size
  have hB : KeepB [(p1, .cells #[.int .i64 0, .int .i64 0, .string (ba ([] : Str)), sl (⟨none, 0, 0⟩ : Sl)] 24 (0, 0))] h2 := hB.push hp hh
  have hE := hE.push hp hh
  refine JO.end_ (JC.next (JC.seq (JC.region ?_)))
  refine JO.p 2 [(8, .int .i64 kind), (9, .pointer c)] ?_
  have H := H p1 h2 ⟨hNp1, hB.l 0⟩ hE
  have hE := Ev.refl [p1] h2
  have H := H hB.ltAll
  refine JO.s 2 (OpOk.c (CallH.mono H ?_ fun _ _ hx => hx))
  rintro _ h4 ⟨r3, rfl, hS, H⟩
  have hB := hB.same hS
  have hE := Ev.refl [p1] h4
  refine JO.p 4 [(11, .agg #[.int .i64 kind, .int .i64 r3, .string (ba ([] : Str)), sl (⟨none, 0, 0⟩ : Sl)])] ?_
  refine JO.s 4 (OpOk.bp [.int .i64 0, .int .i64 0, .string (ba ([] : Str)), sl (⟨none, 0, 0⟩ : Sl)] 24 ?_)
  intro p5 h6 hp hh
  have hNp5 : Array.size h4 ≤ p5 := hp ▸ hE.size
  have hB : KeepB [(p5, .cells #[.int .i64 0, .int .i64 0, .string (ba ([] : Str)), sl (⟨none, 0, 0⟩ : Sl)] 24 (0, 0)), (p1, .cells #[.int .i64 0, .int .i64 0, .string (ba ([] : Str)), sl (⟨none, 0, 0⟩ : Sl)] 24 (0, 0))] h6 := hB.push hp hh
  have hE := hE.push hp hh
  refine JO.s 5 (OpOk.st [.int .i64 kind, .int .i64 r3, .string (ba ([] : Str)), sl (⟨none, 0, 0⟩ : Sl)] (KeepB.st hB 0 0 4) ?_)
  intro h7 hh
  have hE := hE.set hh (by simp [add_block])
  have hB : KeepB [(p5, .cells #[.int .i64 kind, .int .i64 r3, .string (ba ([] : Str)), sl (⟨none, 0, 0⟩ : Sl)] 24 (0, 0)), (p1, .cells #[.int .i64 0, .int .i64 0, .string (ba ([] : Str)), sl (⟨none, 0, 0⟩ : Sl)] 24 (0, 0))] h7 := hB.set 0 rfl (off := 0) rfl hh
  refine JO.end_ (JC.next (JC.seq (JC.region ?_)))
  refine JO.p 2 [(12, .pointer c), (13, .string (ba a2_end))] ?_
  have H := H p5 h7 ⟨hNp5, hB.l 0⟩ hE
  have hE := Ev.refl [p5, p1] h7
  have H := H hB.ltAll
  refine JO.s 2 (OpOk.c (CallH.mono H ?_ fun _ _ hx => hx))
  rintro _ h8 ⟨rfl, hS, H⟩
  have hB := hB.same hS
  have hE := Ev.refl [p5, p1] h8
  refine JO.end_ (JC.next (JC.seq (JC.region ?_)))
  refine JO.y 0 (Yld.lne (KeepB.c hB 0 0 [.int .i64 kind, .int .i64 r3, .string (ba ([] : Str)), sl (⟨none, 0, 0⟩ : Sl)])) ?_
  refine JO.s 1 (OpOk.st [.int .i64 kind, .int .i64 r3, .string (ba ([] : Str)), sl (⟨none, 0, 0⟩ : Sl)] (KeepB.st hB 1 0 4) ?_)
  intro h9 hh
  have hE := hE.set hh (by simp [add_block])
  have hB : KeepB [(p5, .cells #[.int .i64 kind, .int .i64 r3, .string (ba ([] : Str)), sl (⟨none, 0, 0⟩ : Sl)] 24 (0, 0)), (p1, .cells #[.int .i64 kind, .int .i64 r3, .string (ba ([] : Str)), sl (⟨none, 0, 0⟩ : Sl)] 24 (0, 0))] h9 := hB.set 1 rfl (off := 0) rfl hh
  refine JO.end_ (JC.next (JC.ret ?_))
  have H := H h9 hE
  have hE := Ev.refl [p5, p1] h9
  exact JK.retG1 (.agg #[.int .i64 kind, .int .i64 r3, .string (ba ([] : Str)), sl (⟨none, 0, 0⟩ : Sl)]) rfl (RVal.bN p1 24 hB 1) ⟨(⟨kind, r3, ([] : Str), (⟨none, 0, 0⟩ : Sl)⟩ : V_api_Term), by kernel_rfl, H⟩

def F_text_cursor_fun.body (c : Option Addr) (h : Hp) (K : V_api_Term → Hp → Prop) (X : Chain → Hp → Prop) : Prop :=
∀ (p1 : Nat) (h2 : Hp), New p1 h h2 → Ev [p1] h h2 → (LtAll [p1] h2 → F_text_cursor_number.call c 0 1073741824 h2 (fun (r3 : Int) (h4 : Hp) => SameOn [p1] h2 h4 ∧ ∀ (p5 : Nat) (h7 : Hp), New p5 h4 h7 → Ev [p5, p1] h4 h7 → LoopW (fun (s8 : V_api_Term) h9 next10 =>
(LtAll [p5, p1] h9 → F_text_cursor_is.call c ([44] : Str) h9 (fun (r12 : Bool) (h13 : Hp) => SameOn [p5, p1] h9 h13 ∧ (r12 = true → (LtAll [p5, p1] h13 → F_text_cursor_term.call c h13 (fun (r14 : V_api_Term) (h15 : Hp) => SameOn [p5, p1] h13 h15 ∧ AllocW h15 24 [.int .i64 r14.Kind, .int .i64 r14.N, .string (ba r14.S), sl r14.L] (fun (p16 : Nat) (h17 : Hp) => AppW h17 24 4 56 [.int .i64 0, .int .i64 0, .string (ba ([] : Str)), sl (⟨none, 0, 0⟩ : Sl)] s8.L (⟨some ⟨p16, 0, none⟩, 1, 1⟩ : Sl) (fun (s18 : Sl) (h19 : Hp) => SameOn [p5, p1] h17 h19 ∧ ∀ (h20 : Hp), Ev [p5, p1] h19 h20 → next10 (⟨s8.Kind, s8.N, s8.S, s18⟩ : V_api_Term) h20))) X)) ∧
(r12 = false → (LtAll [p5, p1] h13 → F_text_cursor_must.call c ([62] : Str) h13 (fun (h21 : Hp) => SameOn [p5, p1] h13 h21 ∧ ((s8.L.len : Int) > 64 → X [{ v := ifc (some (104, Value.agg #[])), recovered := false }] h21) ∧
(¬ ((s8.L.len : Int) > 64) → ∀ (h22 : Hp), Ev [p5, p1] h21 h22 → K s8 h22)) X))) X)) (⟨5, r3, ([] : Str), (⟨none, 0, 0⟩ : Sl)⟩ : V_api_Term) h7) X)
theorem F_text_cursor_fun.sound {c : Option Addr} {h : Hp} {K : V_api_Term → Hp → Prop} {X : Chain → Hp → Prop} (H : F_text_cursor_fun.body c h K X) : F_text_cursor_fun.call c h K X := by
  unfold F_text_cursor_fun.body at H
  refine CallH.of Tryz.func111 rfl rfl fun w0 hw0 => ?_
  refine JC.seq (JC.region ?_)
  refine JO.s 0 (OpOk.bp [.int .i64 0, .int .i64 0, .string (ba ([] : Str)), sl (⟨none, 0, 0⟩ : Sl)] 24 ?_)
  intro p1 h2 hp hh
  have hE := Ev.refl [] h
  have hB := KeepB.nil h
  have hNp1 : Array.size h ≤ p1 := hp ▸ hE.size
  have hB : KeepB [(p1, .cells #[.int .i64 0, .int .i64 0, .string (ba ([] : Str)), sl (⟨none, 0, 0⟩ : Sl)] 24 (0, 0))] h2 := hB.push hp hh
  have hE := hE.push hp hh
  refine JO.end_ (JC.next (JC.seq (JC.region ?_)))
  refine JO.p 1 [(4, .pointer c)] ?_
  have H := H p1 h2 ⟨hNp1, hB.l 0⟩ hE
  have hE := Ev.refl [p1] h2
  have H := H hB.ltAll
  refine JO.s 1 (OpOk.c (CallH.mono H ?_ fun _ _ hx => hx))
  rintro _ h4 ⟨r3, rfl, hS, H⟩
  have hB := hB.same hS
  have hE := Ev.refl [p1] h4
  refine JO.p 3 [(6, .agg #[.int .i64 5, .int .i64 r3, .string (ba ([] : Str)), sl (⟨none, 0, 0⟩ : Sl)])] ?_
  refine JO.s 3 (OpOk.bp [.int .i64 0, .int .i64 0, .string (ba ([] : Str)), sl (⟨none, 0, 0⟩ : Sl)] 24 ?_)
  intro p5 h6 hp hh
  have hNp5 : Array.size h4 ≤ p5 := hp ▸ hE.size
  have hB : KeepB [(p5, .cells #[.int .i64 0, .int .i64 0, .string (ba ([] : Str)), sl (⟨none, 0, 0⟩ : Sl)] 24 (0, 0)), (p1, .cells #[.int .i64 0, .int .i64 0, .string (ba ([] : Str)), sl (⟨none, 0, 0⟩ : Sl)] 24 (0, 0))] h6 := hB.push hp hh
  have hE := hE.push hp hh
  refine JO.s 4 (OpOk.st [.int .i64 5, .int .i64 r3, .string (ba ([] : Str)), sl (⟨none, 0, 0⟩ : Sl)] (KeepB.st hB 0 0 4) ?_)
  intro h7 hh
  have hE := hE.set hh (by simp [add_block])
  have hB : KeepB [(p5, .cells #[.int .i64 5, .int .i64 r3, .string (ba ([] : Str)), sl (⟨none, 0, 0⟩ : Sl)] 24 (0, 0)), (p1, .cells #[.int .i64 0, .int .i64 0, .string (ba ([] : Str)), sl (⟨none, 0, 0⟩ : Sl)] 24 (0, 0))] h7 := hB.set 0 rfl (off := 0) rfl hh
  refine JO.end_ (JC.next (JC.seq (JC.block ?_)))
  have H := H p5 h7 ⟨hNp5, hB.l 0⟩ hE
  have hE := Ev.refl [p5, p1] h7
  obtain ⟨I11, μI11, hI11, H⟩ := H
  refine JC.loop (S := V_api_Term) (fun s8 => [(0, .pointer c), (2, .pointer (some ⟨p1, 0, none⟩)), (3, .pointer (some ⟨p5, 0, none⟩))]) (fun s8 h' => KeepB [(p5, .cells #[.int .i64 s8.Kind, .int .i64 s8.N, .string (ba s8.S), sl s8.L] 24 (0, 0)), (p1, .cells #[.int .i64 0, .int .i64 0, .string (ba ([] : Str)), sl (⟨none, 0, 0⟩ : Sl)] 24 (0, 0))] h' ∧ I11 s8 h') μI11 (⟨5, r3, ([] : Str), (⟨none, 0, 0⟩ : Sl)⟩ : V_api_Term) Sub.kk ⟨hB, hI11⟩ ?_
  rintro s8 h9 ⟨hB, hI⟩
  have H := H s8 h9 hI
  have hE := Ev.refl [p5, p1] h9
  refine JC.seq (JC.seq (JC.region ?_))
  refine JO.p 1 [(7, .pointer c)] ?_
  have H := H hB.ltAll
  refine JO.s 1 (OpOk.c (CallH.mono H ?_ fun _ _ hx => hx))
  rintro _ h13 ⟨r12, rfl, hS, H⟩
  have hB := hB.same hS
  have hE := Ev.refl [p5, p1] h13
  refine JO.end_ (JC.next ?_)
  refine JC.cd r12 (fun hb => ?_) (fun hb => ?_)
  · have H := H.1 (hb)
    refine JC.skip (JC.next (JC.block ?_))
    refine JC.rd 8 ?_
    refine JD.rr 0 (.pointer (some ((⟨p5, 0, none⟩ : Addr).add 3))) ?_
    refine JD.hold (HoldS.cells 1 (KeepB.c hB 0 3 [sl s8.L])) ?_
    refine JD.t 1 Yld.lh ?_
    refine JD.rr 2 (.pointer c) ?_
    have H := H hB.ltAll
    refine JD.o 3 (OpOk.c (CallH.mono H ?_ fun _ _ hx => hx))
    rintro _ h15 ⟨r14, rfl, hS, H⟩
    have hB := hB.same hS
    have hE := Ev.refl [p5, p1] h15
    refine ⟨(HoldS.cells 1 (KeepB.c hB 0 3 [sl s8.L]) HoldS.nil), ?_⟩
    refine JD.o 4 (OpOk.bs 1 [.int .i64 r14.Kind, .int .i64 r14.N, .string (ba r14.S), sl r14.L] 24 ?_)
    intro p16 h17 hp hh
    have H := H p16 h17 hp hh
    have hB := hB.grow hh
    have hE := Ev.refl [p5, p1] h17
    refine ⟨(HoldS.cells 1 (KeepB.c hB 0 3 [sl s8.L]) HoldS.nil), ?_⟩
    refine JD.o 5 (OpOk.as 24 (.agg #[.int .i64 0, .int .i64 0, .string (ba ([] : Str)), sl (⟨none, 0, 0⟩ : Sl)]) H ?_)
    rintro s18 h19 ⟨hS, H⟩
    have hB := hB.same hS
    have hE := Ev.refl [p5, p1] h19
    refine ⟨(HoldS.drop 1 5 HoldS.nil), ?_⟩
    refine JD.rr 6 (.pointer (some ((⟨p5, 0, none⟩ : Addr).add 3))) ?_
    refine JD.o 7 (OpOk.st [sl s18] (KeepB.st hB 0 3 1) ?_)
    intro h20 hh
    have hE := hE.set hh (by simp [add_block])
    have hB : KeepB [(p5, .cells #[.int .i64 s8.Kind, .int .i64 s8.N, .string (ba s8.S), sl s18] 24 (0, 0)), (p1, .cells #[.int .i64 0, .int .i64 0, .string (ba ([] : Str)), sl (⟨none, 0, 0⟩ : Sl)] 24 (0, 0))] h20 := hB.set 0 rfl (off := 3) rfl hh
    refine ⟨(HoldS.drop 1 5 HoldS.nil), ?_⟩
    refine JD.e ?_
    have H := H h20 hE
    have hE := Ev.refl [p5, p1] h20
    exact JK.inv (⟨s8.Kind, s8.N, s8.S, s18⟩ : V_api_Term) Sub.kk ⟨⟨hB, H.1⟩, H.2⟩
  · have H := H.2 (hb)
    refine JC.exit rfl ?_
    refine JC.next (JC.seq (JC.region ?_))
    refine JO.p 1 [(16, .pointer c)] ?_
    have H := H hB.ltAll
    refine JO.s 1 (OpOk.c (CallH.mono H ?_ fun _ _ hx => hx))
    rintro _ h21 ⟨rfl, hS, H⟩
    have hB := hB.same hS
    have hE := Ev.refl [p5, p1] h21
    refine JO.end_ (JC.next (JC.seq (JC.seq (JC.region ?_))))
    refine JO.p 1 [(18, .pointer (some ((⟨p5, 0, none⟩ : Addr).add 3)))] ?_
    refine JO.y 1 (Yld.le (KeepB.c hB 0 3 [sl s8.L])) ?_
    refine JO.p 4 [(21, .bool (decide ((s8.L.len : Int) > 64)))] ?_
    refine JO.end_ (JC.next ?_)
    refine JC.cd (decide ((s8.L.len : Int) > 64)) (fun hb => ?_) (fun hb => ?_)
    · have H := H.1 (of_decide_eq_true hb)
      refine JC.region ?_
      refine JO.p 2 [(23, ifc (some (104, Value.agg #[])))] ?_
      exact JO.s 2 (OpOk.pn H)
    · have H := H.2 (of_decide_eq_false hb)
      refine JC.skip (JC.next (JC.seq (JC.region ?_)))
      refine JO.y 0 (Yld.lne (KeepB.c hB 0 0 [.int .i64 s8.Kind, .int .i64 s8.N, .string (ba s8.S), sl s8.L])) ?_
      refine JO.s 1 (OpOk.st [.int .i64 s8.Kind, .int .i64 s8.N, .string (ba s8.S), sl s8.L] (KeepB.st hB 1 0 4) ?_)
      intro h22 hh
      have hE := hE.set hh (by simp [add_block])
      have hB : KeepB [(p5, .cells #[.int .i64 s8.Kind, .int .i64 s8.N, .string (ba s8.S), sl s8.L] 24 (0, 0)), (p1, .cells #[.int .i64 s8.Kind, .int .i64 s8.N, .string (ba s8.S), sl s8.L] 24 (0, 0))] h22 := hB.set 1 rfl (off := 0) rfl hh
      refine JO.end_ (JC.next (JC.ret ?_))
      have H := H h22 hE
      have hE := Ev.refl [p5, p1] h22
      exact JK.retG1 (.agg #[.int .i64 s8.Kind, .int .i64 s8.N, .string (ba s8.S), sl s8.L]) rfl (RVal.bN p1 24 hB 1) ⟨s8, by kernel_rfl, H⟩

def F_text_small.body (c : Int) (h : Hp) (K : Bool → Hp → Prop) (X : Chain → Hp → Prop) : Prop :=
K ((decide (c ≥ 97)) && (decide (c ≤ 122))) h
theorem F_text_small.sound {c : Int} {h : Hp} {K : Bool → Hp → Prop} {X : Chain → Hp → Prop} (H : F_text_small.body c h K X) : F_text_small.call c h K X := by
  unfold F_text_small.body at H
  refine CallH.of Tryz.func112 rfl rfl fun w0 hw0 => ?_
  refine JC.seq (JC.region ?_)
  refine JO.p 1 [(2, .bool false)] ?_
  refine JO.end_ (JC.next (JC.seq (JC.region ?_)))
  refine JO.p 3 [(5, .bool (decide (c ≥ 97)))] ?_
  refine JO.jq 6 [(8, .bool ((decide (c ≥ 97)) && (decide (c ≤ 122))))] ?_ ?_
  · refine JO.cs 5 (decide (c ≥ 97)) (fun hc1 => ?_) (fun hc1 => ?_)
    · refine JO.p 6 [(8, .bool (decide (c ≤ 122)))] ?_
      refine JO.end_ ?_
      exact JK.invQ (Sub.of (by (try rw [hc1]); first | done | kernel_rfl))
    · refine JO.p 6 [(8, .bool false)] ?_
      refine JO.end_ ?_
      exact JK.invQ (Sub.of (by (try rw [hc1]); first | done | kernel_rfl))
  refine JO.p 7 [(2, .bool ((decide (c ≥ 97)) && (decide (c ≤ 122))))] ?_
  refine JO.end_ (JC.next (JC.ret ?_))
  exact JK.retG1 (.bool ((decide (c ≥ 97)) && (decide (c ≤ 122)))) rfl RVal.s ⟨(decide (c ≥ 97)) && (decide (c ≤ 122)), by kernel_rfl, H⟩

def F_text_cursor_plain.body (c : Option Addr) (h : Hp) (K : V_api_Term → Hp → Prop) (X : Chain → Hp → Prop) : Prop :=
NilW c (fun (a3 : Addr) => ∀ (p1 : Nat) (h2 : Hp), New p1 h h2 → Ev [p1] h h2 → LoadW h2 (a3.add 1) (cI .i64) (fun (x4 : Int) => LoopW (fun (s5 : Unit) h6 next7 =>
JoinW (fun (k9 : Bool → Hp → Prop) =>
LoadW h6 (a3.add 1) (cI .i64) (fun (x12 : Int) => LoadW h6 (a3.add 0) cS (fun (x13 : Str) => (x12 < (x13.length : Int) → (0 ≤ x12 ∧ x12 < x13.length) ∧ (LtAll [p1] h6 → F_text_letter.call (bt x13 x12) h6 (fun (r16 : Bool) (h17 : Hp) => SameOn [p1] h6 h17 ∧ k9 r16 h17) X)) ∧
(¬ (x12 < (x13.length : Int)) → k9 false h6)))) (fun (s10 : Bool) h11 =>
(s10 = true → LoadW h11 (a3.add 1) (cI .i64) (fun (x18 : Int) => StoreW h11 (a3.add 1) [.int .i64 (IntKind.i64.wrap (x18 + 1))] (fun (h19 : Hp) => SameOn [p1] h11 h19 ∧ next7 () h19))) ∧
(s10 = false → LoadW h11 (a3.add 0) cS (fun (x20 : Str) => LoadW h11 (a3.add 1) (cI .i64) (fun (x21 : Int) => (0 ≤ x4 ∧ x4 ≤ x21 ∧ x21 ≤ (x20.length : Int)) ∧ (LtAll [p1] h11 → F_text_Plain.call (sub x20 x4 x21) h11 (fun (r23 : Bool) (h24 : Hp) => SameOn [p1] h11 h24 ∧ (r23 = true → ∀ (h25 : Hp), Ev [p1] h24 h25 → K (⟨2, 0, sub x20 x4 x21, (⟨none, 0, 0⟩ : Sl)⟩ : V_api_Term) h25) ∧
(r23 = false → X [{ v := ifc (some (104, Value.agg #[])), recovered := false }] h24)) X)))))) () h2))
theorem F_text_cursor_plain.sound {c : Option Addr} {h : Hp} {K : V_api_Term → Hp → Prop} {X : Chain → Hp → Prop} (H : F_text_cursor_plain.body c h K X) : F_text_cursor_plain.call c h K X := by
  unfold F_text_cursor_plain.body at H
  refine CallH.of Tryz.func113 rfl rfl fun w0 hw0 => ?_
  refine JC.seq (JC.region ?_)
  refine JO.s 0 (OpOk.bp [.int .i64 0, .int .i64 0, .string (ba ([] : Str)), sl (⟨none, 0, 0⟩ : Sl)] 24 ?_)
  intro p1 h2 hp hh
  have hE := Ev.refl [] h
  have hB := KeepB.nil h
  have hNp1 : Array.size h ≤ p1 := hp ▸ hE.size
  have hB : KeepB [(p1, .cells #[.int .i64 0, .int .i64 0, .string (ba ([] : Str)), sl (⟨none, 0, 0⟩ : Sl)] 24 (0, 0))] h2 := hB.push hp hh
  have hE := hE.push hp hh
  refine JO.end_ (JC.next (JC.seq (JC.region ?_)))
  refine JO.p 1 [(5, .pointer c)] ?_
  obtain ⟨a3, na3, H⟩ := H
  refine JO.y 1 (Yld.np na3) ?_
  refine JO.p 3 [(7, .pointer (some (a3.add 1)))] ?_
  have H := H p1 h2 ⟨hNp1, hB.l 0⟩ hE
  have hE := Ev.refl [p1] h2
  obtain ⟨x4, lx4, H⟩ := H
  refine JO.y 3 (Yld.le lx4) ?_
  refine JO.p 5 [(3, .int .i64 x4)] ?_
  refine JO.end_ (JC.next (JC.seq (JC.block ?_)))
  obtain ⟨I8, μI8, hI8, H⟩ := H
  refine JC.loop (S := Unit) (fun s5 => [(0, .pointer c), (2, .pointer (some ⟨p1, 0, none⟩)), (3, .int .i64 x4)]) (fun s5 h' => KeepB [(p1, .cells #[.int .i64 0, .int .i64 0, .string (ba ([] : Str)), sl (⟨none, 0, 0⟩ : Sl)] 24 (0, 0))] h' ∧ I8 s5 h') μI8 () Sub.kk ⟨hB, hI8⟩ ?_
  rintro s5 h6 ⟨hB, hI⟩
  have H := H s5 h6 hI
  have hE := Ev.refl [p1] h6
  refine JC.seq (JC.seq ?_)
  obtain ⟨k9, H, Hk9⟩ := H
  refine JC.via (S := Bool) (fun s10 => [(0, .pointer c), (2, .pointer (some ⟨p1, 0, none⟩)), (3, .int .i64 x4), (30, .bool s10)]) (fun s10 h' => KeepB [(p1, .cells #[.int .i64 0, .int .i64 0, .string (ba ([] : Str)), sl (⟨none, 0, 0⟩ : Sl)] 24 (0, 0))] h' ∧ k9 s10 h') ?_ ?_
  · refine JC.rd 22 ?_
    refine JD.rr 0 (.pointer c) ?_
    refine JD.t 1 (Yld.np na3) ?_
    refine JD.rr 2 (.pointer (some (a3.add 1))) ?_
    obtain ⟨x12, lx12, H⟩ := H
    refine JD.hold (HoldS.cells 3 lx12) ?_
    refine JD.t 3 Yld.lh ?_
    refine JD.rr 4 (.pointer c) ?_
    refine JD.t 5 (Yld.np na3) ?_
    refine JD.rr 6 (.pointer (some (a3.add 0))) ?_
    obtain ⟨x13, lx13, H⟩ := H
    refine JD.hold (HoldS.cells 7 lx13) ?_
    refine JD.t 7 Yld.lh ?_
    refine JD.rr 8 (.int .i64 (x13.length : Int)) ?_
    refine JD.rr 9 (.bool (decide (x12 < (x13.length : Int)))) ?_
    refine JD.rr 10 (.bool (decide (x12 < (x13.length : Int)))) ?_
    refine JD.cs 19 (decide (x12 < (x13.length : Int))) (fun hc14 => ?_) (fun hc14 => ?_)
    · have H := H.1 (of_decide_eq_true hc14)
      refine JD.rr 11 (.pointer c) ?_
      refine JD.t 12 (Yld.np na3) ?_
      refine JD.rr 13 (.pointer (some (a3.add 0))) ?_
      refine JD.hold (HoldS.cells 14 lx13) ?_
      refine JD.t 14 Yld.lh ?_
      refine JD.rr 15 (.pointer c) ?_
      refine JD.t 16 (Yld.np na3) ?_
      refine JD.rr 17 (.pointer (some (a3.add 1))) ?_
      refine JD.hold (HoldS.cells 18 lx12) ?_
      refine JD.t 18 Yld.lh ?_
      obtain ⟨q15, H⟩ := H
      refine JD.t 19 (Yld.ix .i64 x13 x12 q15) ?_
      have H := H hB.ltAll
      refine JD.o 20 (OpOk.c (CallH.mono H ?_ fun _ _ hx => hx))
      rintro _ h17 ⟨r16, rfl, hS, H⟩
      have hB := hB.same hS
      have hE := Ev.refl [p1] h17
      refine ⟨(HoldS.drop 18 20 (HoldS.drop 14 20 (HoldS.drop 7 20 (HoldS.drop 3 20 HoldS.nil)))), ?_⟩
      refine JD.rr 21 (.bool r16) ?_
      refine JD.e ?_
      exact JK.inv r16 (Sub.of (by skip; (try rw [hc14]); first | done | kernel_rfl)) ⟨hB, H⟩
    · have H := H.2 (of_decide_eq_false hc14)
      refine JD.k 11 ?_
      refine JD.k 12 ?_
      refine JD.k 13 ?_
      refine JD.k 14 ?_
      refine JD.k 15 ?_
      refine JD.k 16 ?_
      refine JD.k 17 ?_
      refine JD.k 18 ?_
      refine JD.k 19 ?_
      refine JD.k 20 ?_
      refine JD.rr 21 (.bool false) ?_
      refine JD.e ?_
      exact JK.inv false (Sub.of (by skip; (try rw [hc14]); first | done | kernel_rfl)) ⟨hB, H⟩
  rintro s10 h11 ⟨hB, hk⟩
  have H := Hk9 s10 h11 hk
  have hE := Ev.refl [p1] h11
  refine JC.next ?_
  refine JC.cd s10 (fun hb => ?_) (fun hb => ?_)
  · have H := H.1 (hb)
    refine JC.skip (JC.next (JC.block (JC.region ?_)))
    refine JO.p 1 [(31, .pointer c)] ?_
    refine JO.y 1 (Yld.np na3) ?_
    refine JO.p 3 [(33, .pointer (some (a3.add 1)))] ?_
    obtain ⟨x18, lx18, H⟩ := H
    refine JO.y 3 (Yld.le lx18) ?_
    refine JO.p 5 [(35, .int .i64 (IntKind.i64.wrap (x18 + 1)))] ?_
    refine JO.y 5 (Yld.np na3) ?_
    refine JO.p 7 [(37, .pointer (some (a3.add 1)))] ?_
    obtain ⟨hs, H⟩ := H
    refine JO.s 7 (OpOk.st [.int .i64 (IntKind.i64.wrap (x18 + 1))] hs ?_)
    intro h19 hh
    obtain ⟨hS, H⟩ := H h19 hh
    have hB := hB.same hS
    have hE := Ev.refl [p1] h19
    refine JO.end_ ?_
    exact JK.inv () Sub.kk ⟨⟨hB, H.1⟩, H.2⟩
  · have H := H.2 (hb)
    refine JC.exit rfl ?_
    refine JC.next (JC.seq (JC.seq ?_))
    refine JC.rd 11 ?_
    refine JD.rr 0 (.pointer c) ?_
    refine JD.t 1 (Yld.np na3) ?_
    refine JD.rr 2 (.pointer (some (a3.add 0))) ?_
    obtain ⟨x20, lx20, H⟩ := H
    refine JD.hold (HoldS.cells 3 lx20) ?_
    refine JD.t 3 Yld.lh ?_
    refine JD.rr 4 (.int .i64 x4) ?_
    refine JD.rr 5 (.pointer c) ?_
    refine JD.t 6 (Yld.np na3) ?_
    refine JD.rr 7 (.pointer (some (a3.add 1))) ?_
    obtain ⟨x21, lx21, H⟩ := H
    refine JD.hold (HoldS.cells 8 lx21) ?_
    refine JD.t 8 Yld.lh ?_
    obtain ⟨q22, H⟩ := H
    refine JD.t 9 (Yld.ss x20 (some x4) (some x21) q22) ?_
    refine JD.rr 10 (.string (ba (sub x20 x4 x21))) ?_
    refine JD.e ?_
    refine JC.next (JC.seq (JC.region ?_))
    refine JO.p 1 [(48, .string (ba (sub x20 x4 x21)))] ?_
    have H := H hB.ltAll
    refine JO.s 1 (OpOk.c (CallH.mono H ?_ fun _ _ hx => hx))
    rintro _ h24 ⟨r23, rfl, hS, H⟩
    have hB := hB.same hS
    have hE := Ev.refl [p1] h24
    refine JO.end_ (JC.next ?_)
    refine JC.cd r23 (fun hb => ?_) (fun hb => ?_)
    · have H := H.1 (hb)
      refine JC.seq (JC.region ?_)
      refine JO.p 2 [(51, .agg #[.int .i64 2, .int .i64 0, .string (ba (sub x20 x4 x21)), sl (⟨none, 0, 0⟩ : Sl)])] ?_
      refine JO.s 2 (OpOk.st [.int .i64 2, .int .i64 0, .string (ba (sub x20 x4 x21)), sl (⟨none, 0, 0⟩ : Sl)] (KeepB.st hB 0 0 4) ?_)
      intro h25 hh
      have hE := hE.set hh (by simp [add_block])
      have hB : KeepB [(p1, .cells #[.int .i64 2, .int .i64 0, .string (ba (sub x20 x4 x21)), sl (⟨none, 0, 0⟩ : Sl)] 24 (0, 0))] h25 := hB.set 0 rfl (off := 0) rfl hh
      refine JO.end_ (JC.next (JC.ret ?_))
      have H := H h25 hE
      have hE := Ev.refl [p1] h25
      exact JK.retG1 (.agg #[.int .i64 2, .int .i64 0, .string (ba (sub x20 x4 x21)), sl (⟨none, 0, 0⟩ : Sl)]) rfl (RVal.bN p1 24 hB 0) ⟨(⟨2, 0, sub x20 x4 x21, (⟨none, 0, 0⟩ : Sl)⟩ : V_api_Term), by kernel_rfl, H⟩
    · have H := H.2 (hb)
      refine JC.skip (JC.next (JC.region ?_))
      refine JO.p 2 [(53, ifc (some (104, Value.agg #[])))] ?_
      exact JO.s 2 (OpOk.pn H)

def F_text_cursor_number.body (c : Option Addr) (least : Int) (most : Int) (h : Hp) (K : Int → Hp → Prop) (X : Chain → Hp → Prop) : Prop :=
NilW c (fun (a1 : Addr) => LoadW h (a1.add 1) (cI .i64) (fun (x2 : Int) => F_text_cursor_is.call c ([45] : Str) h (fun (r3 : Bool) (h4 : Hp) => LoopW (fun (s5 : Unit) h6 next7 =>
LoadW h6 (a1.add 1) (cI .i64) (fun (x9 : Int) => LoadW h6 (a1.add 0) cS (fun (x10 : Str) => ((x9 < (x10.length : Int)) → 0 ≤ x9 ∧ x9 < x10.length) ∧ ((((decide (x9 < (x10.length : Int))) && (decide ((bt x10 x9) ≥ 48))) = true) → 0 ≤ x9 ∧ x9 < x10.length) ∧ ((((decide (x9 < (x10.length : Int))) && (decide ((bt x10 x9) ≥ 48))) && (decide ((bt x10 x9) ≤ 57))) = true → StoreW h6 (a1.add 1) [.int .i64 (IntKind.i64.wrap (x9 + 1))] (fun (h15 : Hp) => next7 () h15)) ∧
((((decide (x9 < (x10.length : Int))) && (decide ((bt x10 x9) ≥ 48))) && (decide ((bt x10 x9) ≤ 57))) = false → (0 ≤ x2 ∧ x2 ≤ x9 ∧ x9 ≤ (x10.length : Int)) ∧ F_strconv_Atoi.call (sub x10 x2 x9) h6 (fun (r17 : Int) (r18 : Ifc) (h19 : Hp) => JoinW (fun (k20 : Bool → Hp → Prop) =>
((!r18.isNone) = true → k20 true h19) ∧
((!r18.isNone) = false → LoadW h19 (a1.add 0) cS (fun (x24 : Str) => LoadW h19 (a1.add 1) (cI .i64) (fun (x25 : Int) => (0 ≤ x2 ∧ x2 ≤ x25 ∧ x25 ≤ (x24.length : Int)) ∧ F_strconv_Itoa.call r17 h19 (fun (r27 : Str) (h28 : Hp) => hcells h28 (a1.add 1) [.int .i64 x25] ∧ hcells h28 (a1.add 0) [.string (ba x24)] ∧ ((cmpS .neq r27 (sub x24 x2 x25)) = true → k20 true h28) ∧
((cmpS .neq r27 (sub x24 x2 x25)) = false → (r17 < least → k20 true h28) ∧
(¬ (r17 < least) → k20 (decide (r17 > most)) h28))) X)))) (fun (s21 : Bool) h22 =>
(s21 = true → X [{ v := ifc (some (104, Value.agg #[])), recovered := false }] h22) ∧
(s21 = false → K r17 h22))) X)))) () h4) X))
theorem F_text_cursor_number.sound {c : Option Addr} {least : Int} {most : Int} {h : Hp} {K : Int → Hp → Prop} {X : Chain → Hp → Prop} (H : F_text_cursor_number.body c least most h K X) : F_text_cursor_number.call c least most h K X := by
  unfold F_text_cursor_number.body at H
  refine CallH.of Tryz.func114 rfl rfl fun w0 hw0 => ?_
  refine JC.seq (JC.region ?_)
  refine JO.p 1 [(6, .int .i64 0)] ?_
  refine JO.end_ (JC.next (JC.seq (JC.region ?_)))
  refine JO.p 1 [(10, .pointer c)] ?_
  obtain ⟨a1, na1, H⟩ := H
  refine JO.y 1 (Yld.np na1) ?_
  refine JO.p 3 [(12, .pointer (some (a1.add 1)))] ?_
  obtain ⟨x2, lx2, H⟩ := H
  refine JO.y 3 (Yld.le lx2) ?_
  refine JO.p 5 [(7, .int .i64 x2)] ?_
  refine JO.end_ (JC.next (JC.seq (JC.region ?_)))
  refine JO.p 1 [(14, .pointer c)] ?_
  refine JO.s 1 (OpOk.c (CallH.mono H ?_ fun _ _ hx => hx))
  rintro _ h4 ⟨r3, rfl, H⟩
  refine JO.end_ (JC.next (JC.seq (JC.block ?_)))
  obtain ⟨I8, μI8, hI8, H⟩ := H
  refine JC.loop (S := Unit) (fun s5 => [(0, .pointer c), (1, .int .i64 least), (2, .int .i64 most), (7, .int .i64 x2)]) (fun s5 h' => KeepB [] h' ∧ I8 s5 h') μI8 () Sub.kk ⟨KeepB.nil _, hI8⟩ ?_
  rintro s5 h6 ⟨hB, hI⟩
  have H := H s5 h6 hI
  refine JC.seq (JC.seq ?_)
  obtain ⟨x9, lx9, H⟩ := H
  obtain ⟨x10, lx10, H⟩ := H
  obtain ⟨q11, H⟩ := H
  obtain ⟨q12, H⟩ := H
  refine JC.viaQ [(0, .pointer c), (1, .int .i64 least), (2, .int .i64 most), (7, .int .i64 x2), (49, .bool (((decide (x9 < (x10.length : Int))) && (decide ((bt x10 x9) ≥ 48))) && (decide ((bt x10 x9) ≤ 57))))] ?_ ?_
  · refine JC.rd 34 ?_
    refine JD.rr 0 (.pointer c) ?_
    refine JD.t 1 (Yld.np na1) ?_
    refine JD.rr 2 (.pointer (some (a1.add 1))) ?_
    refine JD.hold (HoldS.cells 3 lx9) ?_
    refine JD.t 3 Yld.lh ?_
    refine JD.rr 4 (.pointer c) ?_
    refine JD.t 5 (Yld.np na1) ?_
    refine JD.rr 6 (.pointer (some (a1.add 0))) ?_
    refine JD.hold (HoldS.cells 7 lx10) ?_
    refine JD.t 7 Yld.lh ?_
    refine JD.rr 8 (.int .i64 (x10.length : Int)) ?_
    refine JD.rr 9 (.bool (decide (x9 < (x10.length : Int)))) ?_
    refine JD.rr 10 (.bool (decide (x9 < (x10.length : Int)))) ?_
    refine JD.cs 26 (decide (x9 < (x10.length : Int))) (fun hc13 => ?_) (fun hc13 => ?_)
    · refine JD.rr 11 (.pointer c) ?_
      refine JD.t 12 (Yld.np na1) ?_
      refine JD.rr 13 (.pointer (some (a1.add 0))) ?_
      refine JD.hold (HoldS.cells 14 lx10) ?_
      refine JD.t 14 Yld.lh ?_
      refine JD.rr 15 (.pointer c) ?_
      refine JD.t 16 (Yld.np na1) ?_
      refine JD.rr 17 (.pointer (some (a1.add 1))) ?_
      refine JD.hold (HoldS.cells 18 lx9) ?_
      refine JD.t 18 Yld.lh ?_
      refine JD.t 19 (Yld.ix .i64 x10 x9 (q11 (of_decide_eq_true hc13))) ?_
      refine JD.rr 20 (.bool (decide ((bt x10 x9) ≥ 48))) ?_
      refine JD.rr 21 (.bool (decide ((bt x10 x9) ≥ 48))) ?_
      refine JD.rr 22 (.bool (decide ((bt x10 x9) ≥ 48))) ?_
      refine JD.cs 38 (decide ((bt x10 x9) ≥ 48)) (fun hc14 => ?_) (fun hc14 => ?_)
      · refine JD.rr 23 (.pointer c) ?_
        refine JD.t 24 (Yld.np na1) ?_
        refine JD.rr 25 (.pointer (some (a1.add 0))) ?_
        refine JD.hold (HoldS.cells 26 lx10) ?_
        refine JD.t 26 Yld.lh ?_
        refine JD.rr 27 (.pointer c) ?_
        refine JD.t 28 (Yld.np na1) ?_
        refine JD.rr 29 (.pointer (some (a1.add 1))) ?_
        refine JD.hold (HoldS.cells 30 lx9) ?_
        refine JD.t 30 Yld.lh ?_
        refine JD.t 31 (Yld.ix .i64 x10 x9 (q12 ((show ((decide (x9 < (x10.length : Int))) && (decide ((bt x10 x9) ≥ 48))) = true by (try rw [hc13]); (try rw [hc14]); first | done | rfl)))) ?_
        refine JD.rr 32 (.bool (decide ((bt x10 x9) ≤ 57))) ?_
        refine JD.rr 33 (.bool (decide ((bt x10 x9) ≤ 57))) ?_
        refine JD.e ?_
        exact JK.invQ (Sub.of (by skip; (try rw [hc13]); (try rw [hc14]); first | done | kernel_rfl))
      · refine JD.k 23 ?_
        refine JD.k 24 ?_
        refine JD.k 25 ?_
        refine JD.k 26 ?_
        refine JD.k 27 ?_
        refine JD.k 28 ?_
        refine JD.k 29 ?_
        refine JD.k 30 ?_
        refine JD.k 31 ?_
        refine JD.k 32 ?_
        refine JD.rr 33 (.bool false) ?_
        refine JD.e ?_
        exact JK.invQ (Sub.of (by skip; (try rw [hc13]); (try rw [hc14]); first | done | kernel_rfl))
    · refine JD.k 11 ?_
      refine JD.k 12 ?_
      refine JD.k 13 ?_
      refine JD.k 14 ?_
      refine JD.k 15 ?_
      refine JD.k 16 ?_
      refine JD.k 17 ?_
      refine JD.k 18 ?_
      refine JD.k 19 ?_
      refine JD.k 20 ?_
      refine JD.rr 21 (.bool false) ?_
      refine JD.rr 22 (.bool false) ?_
      refine JD.k 23 ?_
      refine JD.k 24 ?_
      refine JD.k 25 ?_
      refine JD.k 26 ?_
      refine JD.k 27 ?_
      refine JD.k 28 ?_
      refine JD.k 29 ?_
      refine JD.k 30 ?_
      refine JD.k 31 ?_
      refine JD.k 32 ?_
      refine JD.rr 33 (.bool false) ?_
      refine JD.e ?_
      exact JK.invQ (Sub.of (by skip; (try rw [hc13]); first | done | kernel_rfl))
  refine JC.next ?_
  refine JC.cd (((decide (x9 < (x10.length : Int))) && (decide ((bt x10 x9) ≥ 48))) && (decide ((bt x10 x9) ≤ 57))) (fun hb => ?_) (fun hb => ?_)
  · have H := H.1 (hb)
    refine JC.skip (JC.next (JC.block (JC.region ?_)))
    refine JO.p 1 [(50, .pointer c)] ?_
    refine JO.y 1 (Yld.np na1) ?_
    refine JO.p 3 [(52, .pointer (some (a1.add 1)))] ?_
    refine JO.y 3 (Yld.le lx9) ?_
    refine JO.p 5 [(54, .int .i64 (IntKind.i64.wrap (x9 + 1)))] ?_
    refine JO.y 5 (Yld.np na1) ?_
    refine JO.p 7 [(56, .pointer (some (a1.add 1)))] ?_
    obtain ⟨hs, H⟩ := H
    refine JO.s 7 (OpOk.st [.int .i64 (IntKind.i64.wrap (x9 + 1))] hs ?_)
    intro h15 hh
    have H := H h15 hh
    refine JO.end_ ?_
    exact JK.inv () Sub.kk ⟨⟨(KeepB.nil _), H.1⟩, H.2⟩
  · have H := H.2 (hb)
    refine JC.exit rfl ?_
    refine JC.next (JC.seq ?_)
    refine JC.rd 16 ?_
    refine JD.rr 0 (.pointer c) ?_
    refine JD.t 1 (Yld.np na1) ?_
    refine JD.rr 2 (.pointer (some (a1.add 0))) ?_
    refine JD.hold (HoldS.cells 3 lx10) ?_
    refine JD.t 3 Yld.lh ?_
    refine JD.rr 4 (.int .i64 x2) ?_
    refine JD.rr 5 (.pointer c) ?_
    refine JD.t 6 (Yld.np na1) ?_
    refine JD.rr 7 (.pointer (some (a1.add 1))) ?_
    refine JD.hold (HoldS.cells 8 lx9) ?_
    refine JD.t 8 Yld.lh ?_
    obtain ⟨q16, H⟩ := H
    refine JD.t 9 (Yld.ss x10 (some x2) (some x9) q16) ?_
    refine JD.o 10 (OpOk.c (CallH.mono H ?_ fun _ _ hx => hx))
    rintro _ h19 ⟨r17, r18, rfl, H⟩
    refine ⟨(HoldS.drop 8 10 (HoldS.drop 3 10 HoldS.nil)), ?_⟩
    refine JD.rr 11 (.tuple #[.int .i64 r17, ifc r18]) ?_
    refine JD.rr 12 (.int .i64 r17) ?_
    refine JD.rr 13 (ifc r18) ?_
    refine JD.rr 14 (.int .i64 r17) ?_
    refine JD.rr 15 (ifc r18) ?_
    refine JD.e ?_
    refine JC.next (JC.seq (JC.seq ?_))
    obtain ⟨k20, H, Hk20⟩ := H
    refine JC.via (S := Bool) (fun s21 => [(8, .int .i64 r17), (97, .bool s21)]) (fun s21 h' => KeepB [] h' ∧ k20 s21 h') ?_ ?_
    · refine JC.rd 27 ?_
      refine JD.rr 0 (ifc r18) ?_
      refine JD.t 1 (Yld.nF r18) ?_
      refine JD.rr 2 (.bool (!r18.isNone)) ?_
      refine JD.cs 73 (!r18.isNone) (fun hc23 => ?_) (fun hc23 => ?_)
      · have H := H.1 (hc23)
        refine JD.k 3 ?_
        refine JD.k 4 ?_
        refine JD.k 5 ?_
        refine JD.k 6 ?_
        refine JD.k 7 ?_
        refine JD.k 8 ?_
        refine JD.k 9 ?_
        refine JD.k 10 ?_
        refine JD.k 11 ?_
        refine JD.k 12 ?_
        refine JD.k 13 ?_
        refine JD.k 14 ?_
        refine JD.k 15 ?_
        refine JD.rr 16 (.bool true) ?_
        refine JD.rr 17 (.bool true) ?_
        refine JD.k 18 ?_
        refine JD.k 19 ?_
        refine JD.k 20 ?_
        refine JD.rr 21 (.bool true) ?_
        refine JD.rr 22 (.bool true) ?_
        refine JD.k 23 ?_
        refine JD.k 24 ?_
        refine JD.k 25 ?_
        refine JD.rr 26 (.bool true) ?_
        refine JD.e ?_
        exact JK.inv true (Sub.of (by skip; (try rw [hc23]); first | done | kernel_rfl)) ⟨KeepB.nil _, H⟩
      · have H := H.2 (hc23)
        refine JD.rr 3 (.int .i64 r17) ?_
        refine JD.rr 5 (.pointer c) ?_
        refine JD.t 6 (Yld.np na1) ?_
        refine JD.rr 7 (.pointer (some (a1.add 0))) ?_
        obtain ⟨x24, lx24, H⟩ := H
        refine JD.hold (HoldS.cells 8 lx24) ?_
        refine JD.t 8 Yld.lh ?_
        refine JD.rr 9 (.int .i64 x2) ?_
        refine JD.rr 10 (.pointer c) ?_
        refine JD.t 11 (Yld.np na1) ?_
        refine JD.rr 12 (.pointer (some (a1.add 1))) ?_
        obtain ⟨x25, lx25, H⟩ := H
        refine JD.hold (HoldS.cells 13 lx25) ?_
        refine JD.t 13 Yld.lh ?_
        obtain ⟨q26, H⟩ := H
        refine JD.t 14 (Yld.ss x24 (some x2) (some x25) q26) ?_
        refine JD.o 4 (OpOk.c (CallH.mono H ?_ fun _ _ hx => hx))
        rintro _ h28 ⟨r27, rfl, hL0, hL1, H⟩
        have l29 := hL0
        have l30 := hL1
        refine ⟨(HoldS.cells 13 l29 (HoldS.cells 8 l30 HoldS.nil)), ?_⟩
        refine JD.t 15 (Yld.cp .neq r27 (sub x24 x2 x25)) ?_
        refine JD.rr 16 (.bool (cmpS .neq r27 (sub x24 x2 x25))) ?_
        refine JD.rr 17 (.bool (cmpS .neq r27 (sub x24 x2 x25))) ?_
        refine JD.cs 88 (cmpS .neq r27 (sub x24 x2 x25)) (fun hc31 => ?_) (fun hc31 => ?_)
        · have H := H.1 (hc31)
          refine JD.k 18 ?_
          refine JD.k 19 ?_
          refine JD.k 20 ?_
          refine JD.rr 21 (.bool true) ?_
          refine JD.rr 22 (.bool true) ?_
          refine JD.k 23 ?_
          refine JD.k 24 ?_
          refine JD.k 25 ?_
          refine JD.rr 26 (.bool true) ?_
          refine JD.e ?_
          exact JK.inv true (Sub.of (by skip; (try rw [hc23]); (try rw [hc31]); first | done | kernel_rfl)) ⟨KeepB.nil _, H⟩
        · have H := H.2 (hc31)
          refine JD.rr 18 (.int .i64 r17) ?_
          refine JD.rr 19 (.int .i64 least) ?_
          refine JD.rr 20 (.bool (decide (r17 < least))) ?_
          refine JD.rr 21 (.bool (decide (r17 < least))) ?_
          refine JD.rr 22 (.bool (decide (r17 < least))) ?_
          refine JD.cs 93 (decide (r17 < least)) (fun hc32 => ?_) (fun hc32 => ?_)
          · have H := H.1 (of_decide_eq_true hc32)
            refine JD.k 23 ?_
            refine JD.k 24 ?_
            refine JD.k 25 ?_
            refine JD.rr 26 (.bool true) ?_
            refine JD.e ?_
            exact JK.inv true (Sub.of (by skip; (try rw [hc23]); (try rw [hc31]); (try rw [hc32]); first | done | kernel_rfl)) ⟨KeepB.nil _, H⟩
          · have H := H.2 (of_decide_eq_false hc32)
            refine JD.rr 23 (.int .i64 r17) ?_
            refine JD.rr 24 (.int .i64 most) ?_
            refine JD.rr 25 (.bool (decide (r17 > most))) ?_
            refine JD.rr 26 (.bool (decide (r17 > most))) ?_
            refine JD.e ?_
            exact JK.inv (decide (r17 > most)) (Sub.of (by skip; (try rw [hc23]); (try rw [hc31]); (try rw [hc32]); first | done | kernel_rfl)) ⟨KeepB.nil _, H⟩
    rintro s21 h22 ⟨hB, hk⟩
    have H := Hk20 s21 h22 hk
    refine JC.next ?_
    refine JC.cd s21 (fun hb => ?_) (fun hb => ?_)
    · have H := H.1 (hb)
      refine JC.region ?_
      refine JO.p 2 [(99, ifc (some (104, Value.agg #[])))] ?_
      exact JO.s 2 (OpOk.pn H)
    · have H := H.2 (hb)
      refine JC.skip (JC.next (JC.seq (JC.region ?_)))
      refine JO.p 2 [(6, .int .i64 r17)] ?_
      refine JO.end_ (JC.next (JC.ret ?_))
      exact JK.retG1 (.int .i64 r17) rfl RVal.s ⟨r17, by kernel_rfl, H⟩

def F_term_parts_1.body (yield : Value) (free0 : Addr) (h : Hp) (K : Hp → Prop) (X : Chain → Hp → Prop) : Prop :=
LoadW h free0 V_api_Term.cells (fun (x1 : V_api_Term) => AllocW h 24 [.int .i64 x1.Kind, .int .i64 x1.N, .string (ba x1.S), sl x1.L] (fun (p2 : Nat) (h3 : Hp) => AllocW h3 22 [sl (⟨none, 0, 0⟩ : Sl)] (fun (p4 : Nat) (h5 : Hp) => StoreW h5 ⟨p4, 0, none⟩ [sl (⟨some ⟨p2, 0, none⟩, 1, 1⟩ : Sl)] (fun (h6 : Hp) => LoopW (fun (s7 : Unit × List Nat) h8 next9 =>
LoadW h8 ⟨p4, 0, none⟩ cL (fun (x11 : Sl) => ((x11.len : Int) > 0 → IdxW x11 (IntKind.i64.wrap ((x11.len : Int) - 1)) (fun (b13 : Addr) => LoadW h8 (b13.add ((IntKind.i64.wrap ((x11.len : Int) - 1)).toNat * 4)) V_api_Term.cells (fun (x14 : V_api_Term) => AllocW h8 24 [.int .i64 0, .int .i64 0, .string (ba ([] : Str)), sl (⟨none, 0, 0⟩ : Sl)] (fun (p15 : Nat) (h16 : Hp) => StoreW h16 ⟨p15, 0, none⟩ [.int .i64 x14.Kind, .int .i64 x14.N, .string (ba x14.S), sl x14.L] (fun (h17 : Hp) => LoadW h17 ⟨p4, 0, none⟩ cL (fun (x18 : Sl) => (0 ≤ (0 : Int) ∧ (0 : Int) ≤ (IntKind.i64.wrap ((x18.len : Int) - 1)) ∧ (IntKind.i64.wrap ((x18.len : Int) - 1)) ≤ (x18.cap : Int)) ∧ StoreW h17 ⟨p4, 0, none⟩ [sl (Sl.cut x18 4 0 (IntKind.i64.wrap ((x18.len : Int) - 1)))] (fun (h20 : Hp) => LoadW h20 ⟨p15, 0, none⟩ V_api_Term.cells (fun (x21 : V_api_Term) => CallV Tryz.prog yield [.agg #[.int .i64 x21.Kind, .int .i64 x21.N, .string (ba x21.S), sl x21.L]] h20 (fun v24 h23 => ∃ (r22 : Bool), v24 = .bool r22 ∧ ((!r22) = true → ShutW s7.2 h23 (fun h25 => K h25)) ∧
((!r22) = false → LoadW h23 ((⟨p15, 0, none⟩ : Addr).add 3) cL (fun (x26 : Sl) => F_slices_Backward_api_Term_api_Term.call x26 h23 (fun (r27 : Value) (h28 : Hp) => RangeW Tryz.prog r27 h28 (fun (x29 : Int × V_api_Term) => [.int .i64 x29.1, .agg #[.int .i64 x29.2.Kind, .int .i64 x29.2.N, .string (ba x29.2.S), sl x29.2.L]]) (fun (x29 : Int × V_api_Term) h30 beg31 next32 jump33 =>
AllocW h30 24 [.int .i64 0, .int .i64 0, .string (ba ([] : Str)), sl (⟨none, 0, 0⟩ : Sl)] (fun (p34 : Nat) (h35 : Hp) => StoreW h35 ⟨p34, 0, none⟩ [.int .i64 x29.2.Kind, .int .i64 x29.2.N, .string (ba x29.2.S), sl x29.2.L] (fun (h36 : Hp) => beg31 h36 (fun h37 =>
LoadW h37 ⟨p4, 0, none⟩ cL (fun (x38 : Sl) => LoadW h37 ⟨p34, 0, none⟩ V_api_Term.cells (fun (x39 : V_api_Term) => AllocW h37 24 [.int .i64 0, .int .i64 0, .string (ba ([] : Str)), sl (⟨none, 0, 0⟩ : Sl)] (fun (p40 : Nat) (h41 : Hp) => AppW h41 24 4 56 [.int .i64 0, .int .i64 0, .string (ba ([] : Str)), sl (⟨none, 0, 0⟩ : Sl)] x38 (⟨some ⟨p40, 0, none⟩, 1, 1⟩ : Sl) (fun (s44 : Sl) (h45 : Hp) => IdxW s44 (x38.len : Int) (fun (b46 : Addr) => (StoreW h45 (b46.add ((x38.len : Int).toNat * 4)) [.int .i64 x39.Kind, .int .i64 x39.N, .string (ba x39.S), sl x39.L] (fun (h47 : Hp) => StoreW h47 ⟨p4, 0, none⟩ [sl s44] (fun (h48 : Hp) => next32 h48))) ∧ (StoreW h45 ⟨p4, 0, none⟩ [sl s44] (fun (h49 : Hp) => StoreW h49 (b46.add ((x38.len : Int).toNat * 4)) [.int .i64 x39.Kind, .int .i64 x39.N, .string (ba x39.S), sl x39.L] (fun (h50 : Hp) => next32 h50))))))))))))
  (fun D51 h52 => next9 ((), (D51 :: s7.2)) h52)
  (fun D51 c53 h52 => False)) noX))) noX)))))))) ∧
(¬ ((x11.len : Int) > 0) → ShutW s7.2 h8 (fun h54 => K h54)))) ((), []) h6))))
theorem F_term_parts_1.sound {yield : Value} {free0 : Addr} {h : Hp} {K : Hp → Prop} {X : Chain → Hp → Prop} (H : F_term_parts_1.body yield free0 h K X) : F_term_parts_1.call yield free0 h K X := by
  unfold F_term_parts_1.body at H
  refine CallH.ofM Tryz.func115 rfl rfl fun w0 hw0 => ?_
  refine JC.seq (JC.region ?_)
  obtain ⟨x1, lx1, H⟩ := H
  refine JO.y 0 (Yld.lne lx1) ?_
  refine JO.s 1 (OpOk.bs 1 [.int .i64 x1.Kind, .int .i64 x1.N, .string (ba x1.S), sl x1.L] 24 ?_)
  intro p2 h3 hp hh
  have H := H p2 h3 hp hh
  refine JO.s 2 (OpOk.bp [sl (⟨none, 0, 0⟩ : Sl)] 22 ?_)
  intro p4 h5 hp hh
  have H := H p4 h5 hp hh
  obtain ⟨hs, H⟩ := H
  refine JO.s 3 (OpOk.st [sl (⟨some ⟨p2, 0, none⟩, 1, 1⟩ : Sl)] hs ?_)
  intro h6 hh
  have H := H h6 hh
  refine JO.end_ (JC.next (JC.block ?_))
  obtain ⟨I10, μI10, hI10, H⟩ := H
  refine JC.loopM (S := Unit × List Nat) (Ds := []) (fun s => s.2) (fun s7 => [(0, yield), (3, .pointer (some ⟨p4, 0, none⟩))]) I10 μI10 ((), []) Sub.kk hI10 ?_
  rintro s7 h8 hI
  have H := H s7 h8 hI
  refine JC.seq (JC.seq (JC.region ?_))
  obtain ⟨x11, lx11, H⟩ := H
  refine JO.y 0 (Yld.le lx11) ?_
  refine JO.p 3 [(11, .bool (decide ((x11.len : Int) > 0)))] ?_
  refine JO.end_ (JC.next ?_)
  refine JC.cd (decide ((x11.len : Int) > 0)) (fun hb => ?_) (fun hb => ?_)
  · have H := H.1 (of_decide_eq_true hb)
    refine JC.skip (JC.next (JC.block (JC.seq (JC.region ?_))))
    refine JO.y 0 (Yld.le lx11) ?_
    refine JO.y 1 (Yld.le lx11) ?_
    refine JO.p 4 [(15, .int .i64 (IntKind.i64.wrap ((x11.len : Int) - 1)))] ?_
    obtain ⟨qb13, qb13', b13, eb13, H⟩ := H
    refine JO.y 4 (Yld.ia 24 4 .i64 x11 b13 (IntKind.i64.wrap ((x11.len : Int) - 1)) ⟨qb13, qb13'⟩ eb13) ?_
    obtain ⟨x14, lx14, H⟩ := H
    refine JO.y 5 (Yld.lne lx14) ?_
    refine JO.s 6 (OpOk.bp [.int .i64 0, .int .i64 0, .string (ba ([] : Str)), sl (⟨none, 0, 0⟩ : Sl)] 24 ?_)
    intro p15 h16 hp hh
    have H := H p15 h16 hp hh
    obtain ⟨hs, H⟩ := H
    refine JO.s 7 (OpOk.st [.int .i64 x14.Kind, .int .i64 x14.N, .string (ba x14.S), sl x14.L] hs ?_)
    intro h17 hh
    have H := H h17 hh
    refine JO.end_ (JC.next (JC.seq (JC.region ?_)))
    obtain ⟨x18, lx18, H⟩ := H
    refine JO.y 0 (Yld.le lx18) ?_
    refine JO.y 1 (Yld.le lx18) ?_
    refine JO.p 4 [(21, .int .i64 (IntKind.i64.wrap ((x18.len : Int) - 1)))] ?_
    obtain ⟨q19, H⟩ := H
    refine JO.y 4 (Yld.sc 24 4 x18 none (some (IntKind.i64.wrap ((x18.len : Int) - 1))) q19) ?_
    obtain ⟨hs, H⟩ := H
    refine JO.s 5 (OpOk.st [sl (Sl.cut x18 4 0 (IntKind.i64.wrap ((x18.len : Int) - 1)))] hs ?_)
    intro h20 hh
    have H := H h20 hh
    refine JO.end_ (JC.next (JC.seq (JC.seq (JC.region ?_))))
    refine JO.p 1 [(23, yield)] ?_
    obtain ⟨x21, lx21, H⟩ := H
    refine JO.y 1 (Yld.lne lx21) ?_
    refine JO.s 2 (OpOk.cv yield [.agg #[.int .i64 x21.Kind, .int .i64 x21.N, .string (ba x21.S), sl x21.L]] (CallV.mono H ?_ (fun _ _ hx => hx)))
    rintro _ h23 ⟨r22, rfl, H⟩
    refine JO.p 4 [(26, .bool (!r22))] ?_
    refine JO.end_ (JC.next ?_)
    refine JC.cd (!r22) (fun hb => ?_) (fun hb => ?_)
    · have H := H.1 (hb)
      refine JC.ret ?_
      refine JK.retM0 (Ds := s7.2) (ShutW.mono (fun h25 H => ?_) H)
      exact ⟨by kernel_rfl, H⟩
    · have H := H.2 (hb)
      refine JC.skip (JC.next (JC.seq (JC.region ?_)))
      refine JO.p 1 [(27, .pointer (some ((⟨p15, 0, none⟩ : Addr).add 3)))] ?_
      obtain ⟨x26, lx26, H⟩ := H
      refine JO.y 1 (Yld.le lx26) ?_
      refine JO.s 2 (OpOk.c (CallH.mono H ?_ fun _ _ hx => hx))
      rintro r27 h28 ⟨_, rfl, H⟩
      refine JO.end_ (JC.next (JC.block ?_))
      refine JC.rangeF (T := Int × V_api_Term) r27 [0, 1, 2] [(3, .pointer (some ⟨p4, 0, none⟩))] H ?_ ?_ ?_
      · rintro x29 lx29 w1 Rx29 Nb h30 beg31 next32 jump33 H hbeg31 hnext32 hjump33
        refine JC.region ?_
        refine JO.s 0 (OpOk.bp [.int .i64 0, .int .i64 0, .string (ba ([] : Str)), sl (⟨none, 0, 0⟩ : Sl)] 24 ?_)
        intro p34 h35 hp hh
        have H := H p34 h35 hp hh
        obtain ⟨hs, H⟩ := H
        refine JO.s 1 (OpOk.st [.int .i64 x29.2.Kind, .int .i64 x29.2.N, .string (ba x29.2.S), sl x29.2.L] hs ?_)
        intro h36 hh
        have H := H h36 hh
        refine JO.end_ ?_
        refine hbeg31 _ _ _ H (fun h37 H => ?_)
        refine JC.block ?_
        refine JC.rd 8 ?_
        obtain ⟨x38, lx38, H⟩ := H
        refine JD.hold (HoldS.cells 0 lx38) ?_
        refine JD.t 0 Yld.lh ?_
        obtain ⟨x39, lx39, H⟩ := H
        refine JD.hold (HoldS.cells 1 lx39) ?_
        refine JD.t 1 Yld.lnh ?_
        refine JD.rr 2 (.int .i64 (x38.len : Int)) ?_
        refine JD.o 3 (OpOk.bs 1 [.int .i64 0, .int .i64 0, .string (ba ([] : Str)), sl (⟨none, 0, 0⟩ : Sl)] 24 ?_)
        intro p40 h41 hp hh
        have H := H p40 h41 hp hh
        have l42 := hcells_push lx39 hh
        have l43 := hcells_push lx38 hh
        refine ⟨(HoldS.cells 1 l42 (HoldS.cells 0 l43 HoldS.nil)), ?_⟩
        refine JD.o 4 (OpOk.as 24 (.agg #[.int .i64 0, .int .i64 0, .string (ba ([] : Str)), sl (⟨none, 0, 0⟩ : Sl)]) H ?_)
        rintro s44 h45 H
        refine ⟨(HoldS.drop 1 4 (HoldS.drop 0 4 HoldS.nil)), ?_⟩
        obtain ⟨qb46, qb46', b46, eb46, H⟩ := H
        refine JD.t 5 (Yld.ia 24 4 .i64 s44 b46 (x38.len : Int) ⟨qb46, qb46'⟩ eb46) ?_
        refine JD.w 6 7 ?_ ?_
        · have H := H.1
          obtain ⟨hs, H⟩ := H
          refine OpOk.st [.int .i64 x39.Kind, .int .i64 x39.N, .string (ba x39.S), sl x39.L] hs ?_
          intro h47 hh
          have H := H h47 hh
          refine ⟨(HoldS.drop 1 4 (HoldS.drop 0 4 HoldS.nil)), ?_⟩
          obtain ⟨hs, H⟩ := H
          refine JD.o 7 (OpOk.st [sl s44] hs ?_)
          intro h48 hh
          have H := H h48 hh
          refine ⟨(HoldS.drop 1 4 (HoldS.drop 0 4 HoldS.nil)), ?_⟩
          refine JD.e ?_
          exact hnext32 _ _ H
        · have H := H.2
          obtain ⟨hs, H⟩ := H
          refine OpOk.st [sl s44] hs ?_
          intro h49 hh
          have H := H h49 hh
          refine ⟨(HoldS.drop 1 4 (HoldS.drop 0 4 HoldS.nil)), ?_⟩
          obtain ⟨hs, H⟩ := H
          refine JD.o 6 (OpOk.st [.int .i64 x39.Kind, .int .i64 x39.N, .string (ba x39.S), sl x39.L] hs ?_)
          intro h50 hh
          have H := H h50 hh
          refine ⟨(HoldS.drop 1 4 (HoldS.drop 0 4 HoldS.nil)), ?_⟩
          refine JD.e ?_
          exact hnext32 _ _ H
      · rintro D51 h52 H
        exact JK.invM (Ds := (D51 :: s7.2)) ((), (D51 :: s7.2)) Sub.kk H
      · rintro _ _ _ ⟨⟩
  · have H := H.2 (of_decide_eq_false hb)
    refine JC.exit rfl ?_
    refine JK.retM0 (Ds := s7.2) (ShutW.mono (fun h54 H => ?_) H)
    exact ⟨by kernel_rfl, H⟩

def F_tenureref05_hex.body (c : Int) (h : Hp) (K : Int → Hp → Prop) (X : Chain → Hp → Prop) : Prop :=
F_tenureref05_within.call c 48 57 h (fun (r1 : Bool) (h2 : Hp) => (r1 = true → ∀ (x3 : Int), x3 = IntKind.i64.wrap (IntKind.u8.wrap (c - 48)) → K x3 h2) ∧
(r1 = false → F_tenureref05_within.call c 97 102 h2 (fun (r4 : Bool) (h5 : Hp) => (r4 = true → ∀ (x6 : Int), x6 = IntKind.i64.wrap ((IntKind.i64.wrap (IntKind.u8.wrap (c - 97))) + 10) → K x6 h5) ∧
(r4 = false → K (-1) h5)) X)) X
theorem F_tenureref05_hex.sound {c : Int} {h : Hp} {K : Int → Hp → Prop} {X : Chain → Hp → Prop} (H : F_tenureref05_hex.body c h K X) : F_tenureref05_hex.call c h K X := by
  unfold F_tenureref05_hex.body at H
  refine CallH.of Tryz.func121 rfl rfl fun w0 hw0 => ?_
  refine JC.seq (JC.region ?_)
  refine JO.p 1 [(2, .int .i64 0)] ?_
  refine JO.end_ (JC.next (JC.seq (JC.seq (JC.region ?_))))
  refine JO.p 1 [(3, .int .u8 c)] ?_
  refine JO.s 1 (OpOk.c (CallH.mono H ?_ fun _ _ hx => hx))
  rintro _ h2 ⟨r1, rfl, H⟩
  refine JO.end_ (JC.next ?_)
  refine JC.cd r1 (fun hb => ?_) (fun hb => ?_)
  · have H := H.1 (hb)
    refine JC.seq (JC.region ?_)
    refine JO.p 3 [(7, .int .i64 (IntKind.i64.wrap (IntKind.u8.wrap (c - 48))))] ?_
    let x3 : Int := IntKind.i64.wrap (IntKind.u8.wrap (c - 48))
    have H := H x3 rfl
    refine JO.p 4 [(2, .int .i64 x3)] ?_
    refine JO.end_ (JC.next (JC.ret ?_))
    exact JK.retG1 (.int .i64 x3) rfl RVal.s ⟨x3, by kernel_rfl, H⟩
  · have H := H.2 (hb)
    refine JC.skip (JC.next (JC.seq (JC.seq (JC.region ?_))))
    refine JO.p 1 [(8, .int .u8 c)] ?_
    refine JO.s 1 (OpOk.c (CallH.mono H ?_ fun _ _ hx => hx))
    rintro _ h5 ⟨r4, rfl, H⟩
    refine JO.end_ (JC.next ?_)
    refine JC.cd r4 (fun hb => ?_) (fun hb => ?_)
    · have H := H.1 (hb)
      refine JC.seq (JC.region ?_)
      refine JO.p 4 [(13, .int .i64 (IntKind.i64.wrap ((IntKind.i64.wrap (IntKind.u8.wrap (c - 97))) + 10)))] ?_
      let x6 : Int := IntKind.i64.wrap ((IntKind.i64.wrap (IntKind.u8.wrap (c - 97))) + 10)
      have H := H x6 rfl
      refine JO.p 5 [(2, .int .i64 x6)] ?_
      refine JO.end_ (JC.next (JC.ret ?_))
      exact JK.retG1 (.int .i64 x6) rfl RVal.s ⟨x6, by kernel_rfl, H⟩
    · have H := H.2 (hb)
      refine JC.skip (JC.next (JC.seq (JC.region ?_)))
      refine JO.p 1 [(2, .int .i64 (-1))] ?_
      refine JO.end_ (JC.next (JC.ret ?_))
      exact JK.retG1 (.int .i64 (-1)) rfl RVal.s ⟨(-1), by kernel_rfl, H⟩

end Go.Proofs.YtefbonjcpdjhcaaGreatDoor.X
