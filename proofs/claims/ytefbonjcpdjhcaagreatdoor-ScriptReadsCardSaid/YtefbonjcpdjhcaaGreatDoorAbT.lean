/- A part of the proof: The card of ScriptReads: for every text that the form allows, the law returns true and leaves its argument as it was; the listed package-level variables of Go's library hold what their initialisers lay. -/
import Derived.Test.YtefbonjcpdjhcaaGreatDoorAbS
/- The values of the program, and its calls, by heaps. Printed by a program of ours. -/
set_option linter.unusedVariables false
set_option maxRecDepth 100000
namespace Go.Proofs.YtefbonjcpdjhcaaGreatDoor.X
open Go Go.RowKit

structure V_text_fault where

def V_text_fault.cells (x : V_text_fault) : List Value := []

structure V_api_Term where
  Kind : Int
  N : Int
  S : Str
  L : Sl

def V_api_Term.cells (x : V_api_Term) : List Value := [.int .i64 x.Kind, .int .i64 x.N, .string (ba x.S), sl x.L]

structure V_api_Deed where
  Kind : Int
  N : Int
  Name : Str
  T : V_api_Term
  L : Sl

def V_api_Deed.cells (x : V_api_Deed) : List Value := [.int .i64 x.Kind, .int .i64 x.N, .string (ba x.Name), .int .i64 x.T.Kind, .int .i64 x.T.N, .string (ba x.T.S), sl x.T.L, sl x.L]

structure V_script_want where
  kind : Int
  names : Bool
  terms : Bool

def V_script_want.cells (x : V_script_want) : List Value := [.int .i64 x.kind, .bool x.names, .bool x.terms]

def F_tenurelaw31_ScriptParses.call (line : Str) (h : Hp) (K : Bool → Hp → Prop) (X : Chain → Hp → Prop) : Prop :=
  CallH Tryz.prog 3 #[.string (ba line)] h (fun v h' => ∃ (r0 : Bool), v = .bool r0 ∧ K r0 h') X
theorem F_tenurelaw31_ScriptParses.mono {line : Str} {h : Hp} {K K' : Bool → Hp → Prop} {X X' : Chain → Hp → Prop} (H : F_tenurelaw31_ScriptParses.call line h K X) (hk : ∀ r0 h', K r0 h' → K' r0 h') (hx : ∀ c h', X c h' → X' c h') : F_tenurelaw31_ScriptParses.call line h K' X' :=
  CallH.mono H (fun v h' ⟨r0, e, k⟩ => ⟨r0, e, hk _ _ k⟩) hx

def F_tenurelaw31_ScriptReads.call (text : Str) (h : Hp) (K : Bool → Hp → Prop) (X : Chain → Hp → Prop) : Prop :=
  CallH Tryz.prog 4 #[.string (ba text)] h (fun v h' => ∃ (r0 : Bool), v = .bool r0 ∧ K r0 h') X
theorem F_tenurelaw31_ScriptReads.mono {text : Str} {h : Hp} {K K' : Bool → Hp → Prop} {X X' : Chain → Hp → Prop} (H : F_tenurelaw31_ScriptReads.call text h K X) (hk : ∀ r0 h', K r0 h' → K' r0 h') (hx : ∀ c h', X c h' → X' c h') : F_tenurelaw31_ScriptReads.call text h K' X' :=
  CallH.mono H (fun v h' ⟨r0, e, k⟩ => ⟨r0, e, hk _ _ k⟩) hx

def F_script_Parse.call (line : Str) (h : Hp) (K : V_api_Deed → Int → Hp → Prop) (X : Chain → Hp → Prop) : Prop :=
  CallH Tryz.prog 8 #[.string (ba line)] h (fun v h' => ∃ (r0 : V_api_Deed) (r1 : Int), v = .tuple #[.agg r0.cells.toArray, .int .i64 r1] ∧ K r0 r1 h') X
theorem F_script_Parse.mono {line : Str} {h : Hp} {K K' : V_api_Deed → Int → Hp → Prop} {X X' : Chain → Hp → Prop} (H : F_script_Parse.call line h K X) (hk : ∀ r0 r1 h', K r0 r1 h' → K' r0 r1 h') (hx : ∀ c h', X c h' → X' c h') : F_script_Parse.call line h K' X' :=
  CallH.mono H (fun v h' ⟨r0, r1, e, k⟩ => ⟨r0, r1, e, hk _ _ _ k⟩) hx

def F_tenureref31_Parse.call (line : Str) (h : Hp) (K : V_api_Deed → Int → Hp → Prop) (X : Chain → Hp → Prop) : Prop :=
  CallH Tryz.prog 9 #[.string (ba line)] h (fun v h' => ∃ (r0 : V_api_Deed) (r1 : Int), v = .tuple #[.agg r0.cells.toArray, .int .i64 r1] ∧ K r0 r1 h') X
theorem F_tenureref31_Parse.mono {line : Str} {h : Hp} {K K' : V_api_Deed → Int → Hp → Prop} {X X' : Chain → Hp → Prop} (H : F_tenureref31_Parse.call line h K X) (hk : ∀ r0 r1 h', K r0 r1 h' → K' r0 r1 h') (hx : ∀ c h', X c h' → X' c h') : F_tenureref31_Parse.call line h K' X' :=
  CallH.mono H (fun v h' ⟨r0, r1, e, k⟩ => ⟨r0, r1, e, hk _ _ _ k⟩) hx

def F_tenurelaw31_same.call (a : V_api_Deed) (b : V_api_Deed) (h : Hp) (K : Bool → Hp → Prop) (X : Chain → Hp → Prop) : Prop :=
  CallH Tryz.prog 10 #[.agg #[.int .i64 a.Kind, .int .i64 a.N, .string (ba a.Name), .int .i64 a.T.Kind, .int .i64 a.T.N, .string (ba a.T.S), sl a.T.L, sl a.L], .agg #[.int .i64 b.Kind, .int .i64 b.N, .string (ba b.Name), .int .i64 b.T.Kind, .int .i64 b.T.N, .string (ba b.T.S), sl b.T.L, sl b.L]] h (fun v h' => ∃ (r0 : Bool), v = .bool r0 ∧ K r0 h') X
theorem F_tenurelaw31_same.mono {a : V_api_Deed} {b : V_api_Deed} {h : Hp} {K K' : Bool → Hp → Prop} {X X' : Chain → Hp → Prop} (H : F_tenurelaw31_same.call a b h K X) (hk : ∀ r0 h', K r0 h' → K' r0 h') (hx : ∀ c h', X c h' → X' c h') : F_tenurelaw31_same.call a b h K' X' :=
  CallH.mono H (fun v h' ⟨r0, e, k⟩ => ⟨r0, e, hk _ _ k⟩) hx

def F_tenurelaw31_awake.call  (h : Hp) (K : Bool → Hp → Prop) (X : Chain → Hp → Prop) : Prop :=
  CallH Tryz.prog 11 #[] h (fun v h' => ∃ (r0 : Bool), v = .bool r0 ∧ K r0 h') X
theorem F_tenurelaw31_awake.mono  {h : Hp} {K K' : Bool → Hp → Prop} {X X' : Chain → Hp → Prop} (H : F_tenurelaw31_awake.call  h K X) (hk : ∀ r0 h', K r0 h' → K' r0 h') (hx : ∀ c h', X c h' → X' c h') : F_tenurelaw31_awake.call  h K' X' :=
  CallH.mono H (fun v h' ⟨r0, e, k⟩ => ⟨r0, e, hk _ _ k⟩) hx

def F_script_Read.call (s : Str) (h : Hp) (K : Sl → Int → Hp → Prop) (X : Chain → Hp → Prop) : Prop :=
  CallH Tryz.prog 12 #[.string (ba s)] h (fun v h' => ∃ (r0 : Sl) (r1 : Int), v = .tuple #[sl r0, .int .i64 r1] ∧ K r0 r1 h') X
theorem F_script_Read.mono {s : Str} {h : Hp} {K K' : Sl → Int → Hp → Prop} {X X' : Chain → Hp → Prop} (H : F_script_Read.call s h K X) (hk : ∀ r0 r1 h', K r0 r1 h' → K' r0 r1 h') (hx : ∀ c h', X c h' → X' c h') : F_script_Read.call s h K' X' :=
  CallH.mono H (fun v h' ⟨r0, r1, e, k⟩ => ⟨r0, r1, e, hk _ _ _ k⟩) hx

def F_tenureref31_Read.call (text : Str) (h : Hp) (K : Sl → Int → Hp → Prop) (X : Chain → Hp → Prop) : Prop :=
  CallH Tryz.prog 13 #[.string (ba text)] h (fun v h' => ∃ (r0 : Sl) (r1 : Int), v = .tuple #[sl r0, .int .i64 r1] ∧ K r0 r1 h') X
theorem F_tenureref31_Read.mono {text : Str} {h : Hp} {K K' : Sl → Int → Hp → Prop} {X X' : Chain → Hp → Prop} (H : F_tenureref31_Read.call text h K X) (hk : ∀ r0 r1 h', K r0 r1 h' → K' r0 r1 h') (hx : ∀ c h', X c h' → X' c h') : F_tenureref31_Read.call text h K' X' :=
  CallH.mono H (fun v h' ⟨r0, r1, e, k⟩ => ⟨r0, r1, e, hk _ _ _ k⟩) hx

def F_tenurelaw31_parses.call (line : Str) (x : V_api_Deed) (h : Hp) (K : Bool → Hp → Prop) (X : Chain → Hp → Prop) : Prop :=
  CallH Tryz.prog 19 #[.string (ba line), .agg #[.int .i64 x.Kind, .int .i64 x.N, .string (ba x.Name), .int .i64 x.T.Kind, .int .i64 x.T.N, .string (ba x.T.S), sl x.T.L, sl x.L]] h (fun v h' => ∃ (r0 : Bool), v = .bool r0 ∧ K r0 h') X
theorem F_tenurelaw31_parses.mono {line : Str} {x : V_api_Deed} {h : Hp} {K K' : Bool → Hp → Prop} {X X' : Chain → Hp → Prop} (H : F_tenurelaw31_parses.call line x h K X) (hk : ∀ r0 h', K r0 h' → K' r0 h') (hx : ∀ c h', X c h' → X' c h') : F_tenurelaw31_parses.call line x h K' X' :=
  CallH.mono H (fun v h' ⟨r0, e, k⟩ => ⟨r0, e, hk _ _ k⟩) hx

def F_strings_Cut.call (s : Str) (sep : Str) (h : Hp) (K : Str → Str → Bool → Hp → Prop) (X : Chain → Hp → Prop) : Prop :=
  CallH Tryz.prog 21 #[.string (ba s), .string (ba sep)] h (fun v h' => ∃ (r0 : Str) (r1 : Str) (r2 : Bool), v = .tuple #[.string (ba r0), .string (ba r1), .bool r2] ∧ K r0 r1 r2 h') X
theorem F_strings_Cut.mono {s : Str} {sep : Str} {h : Hp} {K K' : Str → Str → Bool → Hp → Prop} {X X' : Chain → Hp → Prop} (H : F_strings_Cut.call s sep h K X) (hk : ∀ r0 r1 r2 h', K r0 r1 r2 h' → K' r0 r1 r2 h') (hx : ∀ c h', X c h' → X' c h') : F_strings_Cut.call s sep h K' X' :=
  CallH.mono H (fun v h' ⟨r0, r1, r2, e, k⟩ => ⟨r0, r1, r2, e, hk _ _ _ _ k⟩) hx

def F_script_words.call  (h : Hp) (K : (Option Nat) → Hp → Prop) (X : Chain → Hp → Prop) : Prop :=
  CallH Tryz.prog 22 #[] h (fun v h' => ∃ (r0 : Option Nat), v = .map r0 ∧ K r0 h') X
theorem F_script_words.mono  {h : Hp} {K K' : (Option Nat) → Hp → Prop} {X X' : Chain → Hp → Prop} (H : F_script_words.call  h K X) (hk : ∀ r0 h', K r0 h' → K' r0 h') (hx : ∀ c h', X c h' → X' c h') : F_script_words.call  h K' X' :=
  CallH.mono H (fun v h' ⟨r0, e, k⟩ => ⟨r0, e, hk _ _ k⟩) hx

def F_script_named.call (rest : Str) (h : Hp) (K : V_api_Deed → Bool → Hp → Prop) (X : Chain → Hp → Prop) : Prop :=
  CallH Tryz.prog 23 #[.string (ba rest)] h (fun v h' => ∃ (r0 : V_api_Deed) (r1 : Bool), v = .tuple #[.agg r0.cells.toArray, .bool r1] ∧ K r0 r1 h') X
theorem F_script_named.mono {rest : Str} {h : Hp} {K K' : V_api_Deed → Bool → Hp → Prop} {X X' : Chain → Hp → Prop} (H : F_script_named.call rest h K X) (hk : ∀ r0 r1 h', K r0 r1 h' → K' r0 r1 h') (hx : ∀ c h', X c h' → X' c h') : F_script_named.call rest h K' X' :=
  CallH.mono H (fun v h' ⟨r0, r1, e, k⟩ => ⟨r0, r1, e, hk _ _ _ k⟩) hx

def F_text_Read.call (s : Str) (h : Hp) (K : V_api_Term → Int → Hp → Prop) (X : Chain → Hp → Prop) : Prop :=
  CallH Tryz.prog 24 #[.string (ba s)] h (fun v h' => ∃ (r0 : V_api_Term) (r1 : Int), v = .tuple #[.agg r0.cells.toArray, .int .i64 r1] ∧ K r0 r1 h') X
theorem F_text_Read.mono {s : Str} {h : Hp} {K K' : V_api_Term → Int → Hp → Prop} {X X' : Chain → Hp → Prop} (H : F_text_Read.call s h K X) (hk : ∀ r0 r1 h', K r0 r1 h' → K' r0 r1 h') (hx : ∀ c h', X c h' → X' c h') : F_text_Read.call s h K' X' :=
  CallH.mono H (fun v h' ⟨r0, r1, e, k⟩ => ⟨r0, r1, e, hk _ _ _ k⟩) hx

def F_script_number.call (s : Str) (h : Hp) (K : Int → Bool → Hp → Prop) (X : Chain → Hp → Prop) : Prop :=
  CallH Tryz.prog 25 #[.string (ba s)] h (fun v h' => ∃ (r0 : Int) (r1 : Bool), v = .tuple #[.int .i64 r0, .bool r1] ∧ K r0 r1 h') X
theorem F_script_number.mono {s : Str} {h : Hp} {K K' : Int → Bool → Hp → Prop} {X X' : Chain → Hp → Prop} (H : F_script_number.call s h K X) (hk : ∀ r0 r1 h', K r0 r1 h' → K' r0 r1 h') (hx : ∀ c h', X c h' → X' c h') : F_script_number.call s h K' X' :=
  CallH.mono H (fun v h' ⟨r0, r1, e, k⟩ => ⟨r0, r1, e, hk _ _ _ k⟩) hx

def F_tenureref31_Cut.call (s : Str) (h : Hp) (K : Str → Str → Bool → Hp → Prop) (X : Chain → Hp → Prop) : Prop :=
  CallH Tryz.prog 26 #[.string (ba s)] h (fun v h' => ∃ (r0 : Str) (r1 : Str) (r2 : Bool), v = .tuple #[.string (ba r0), .string (ba r1), .bool r2] ∧ K r0 r1 r2 h') X
theorem F_tenureref31_Cut.mono {s : Str} {h : Hp} {K K' : Str → Str → Bool → Hp → Prop} {X X' : Chain → Hp → Prop} (H : F_tenureref31_Cut.call s h K X) (hk : ∀ r0 r1 r2 h', K r0 r1 r2 h' → K' r0 r1 r2 h') (hx : ∀ c h', X c h' → X' c h') : F_tenureref31_Cut.call s h K' X' :=
  CallH.mono H (fun v h' ⟨r0, r1, r2, e, k⟩ => ⟨r0, r1, r2, e, hk _ _ _ _ k⟩) hx

def F_tenureref31_kinds.call  (h : Hp) (K : Sl → Hp → Prop) (X : Chain → Hp → Prop) : Prop :=
  CallH Tryz.prog 27 #[] h (fun v h' => ∃ (r0 : Sl), v = sl r0 ∧ K r0 h') X
theorem F_tenureref31_kinds.mono  {h : Hp} {K K' : Sl → Hp → Prop} {X X' : Chain → Hp → Prop} (H : F_tenureref31_kinds.call  h K X) (hk : ∀ r0 h', K r0 h' → K' r0 h') (hx : ∀ c h', X c h' → X' c h') : F_tenureref31_kinds.call  h K' X' :=
  CallH.mono H (fun v h' ⟨r0, e, k⟩ => ⟨r0, e, hk _ _ k⟩) hx

def F_tenureref31_spawn.call (rest : Str) (h : Hp) (K : V_api_Deed → Bool → Hp → Prop) (X : Chain → Hp → Prop) : Prop :=
  CallH Tryz.prog 28 #[.string (ba rest)] h (fun v h' => ∃ (r0 : V_api_Deed) (r1 : Bool), v = .tuple #[.agg r0.cells.toArray, .bool r1] ∧ K r0 r1 h') X
theorem F_tenureref31_spawn.mono {rest : Str} {h : Hp} {K K' : V_api_Deed → Bool → Hp → Prop} {X X' : Chain → Hp → Prop} (H : F_tenureref31_spawn.call rest h K X) (hk : ∀ r0 r1 h', K r0 r1 h' → K' r0 r1 h') (hx : ∀ c h', X c h' → X' c h') : F_tenureref31_spawn.call rest h K' X' :=
  CallH.mono H (fun v h' ⟨r0, r1, e, k⟩ => ⟨r0, r1, e, hk _ _ _ k⟩) hx

def F_tenureref31_Number.call (s : Str) (h : Hp) (K : Int → Bool → Hp → Prop) (X : Chain → Hp → Prop) : Prop :=
  CallH Tryz.prog 29 #[.string (ba s)] h (fun v h' => ∃ (r0 : Int) (r1 : Bool), v = .tuple #[.int .i64 r0, .bool r1] ∧ K r0 r1 h') X
theorem F_tenureref31_Number.mono {s : Str} {h : Hp} {K K' : Int → Bool → Hp → Prop} {X X' : Chain → Hp → Prop} (H : F_tenureref31_Number.call s h K X) (hk : ∀ r0 r1 h', K r0 r1 h' → K' r0 r1 h') (hx : ∀ c h', X c h' → X' c h') : F_tenureref31_Number.call s h K' X' :=
  CallH.mono H (fun v h' ⟨r0, r1, e, k⟩ => ⟨r0, r1, e, hk _ _ _ k⟩) hx

def F_tenureref05_Read.call (s : Str) (h : Hp) (K : V_api_Term → Int → Hp → Prop) (X : Chain → Hp → Prop) : Prop :=
  CallH Tryz.prog 30 #[.string (ba s)] h (fun v h' => ∃ (r0 : V_api_Term) (r1 : Int), v = .tuple #[.agg r0.cells.toArray, .int .i64 r1] ∧ K r0 r1 h') X
theorem F_tenureref05_Read.mono {s : Str} {h : Hp} {K K' : V_api_Term → Int → Hp → Prop} {X X' : Chain → Hp → Prop} (H : F_tenureref05_Read.call s h K X) (hk : ∀ r0 r1 h', K r0 r1 h' → K' r0 r1 h') (hx : ∀ c h', X c h' → X' c h') : F_tenureref05_Read.call s h K' X' :=
  CallH.mono H (fun v h' ⟨r0, r1, e, k⟩ => ⟨r0, r1, e, hk _ _ _ k⟩) hx

def F_tenurekit_SameTerm.call (a : V_api_Term) (b : V_api_Term) (h : Hp) (K : Bool → Hp → Prop) (X : Chain → Hp → Prop) : Prop :=
  CallH Tryz.prog 31 #[.agg #[.int .i64 a.Kind, .int .i64 a.N, .string (ba a.S), sl a.L], .agg #[.int .i64 b.Kind, .int .i64 b.N, .string (ba b.S), sl b.L]] h (fun v h' => ∃ (r0 : Bool), v = .bool r0 ∧ K r0 h') X
theorem F_tenurekit_SameTerm.mono {a : V_api_Term} {b : V_api_Term} {h : Hp} {K K' : Bool → Hp → Prop} {X X' : Chain → Hp → Prop} (H : F_tenurekit_SameTerm.call a b h K X) (hk : ∀ r0 h', K r0 h' → K' r0 h') (hx : ∀ c h', X c h' → X' c h') : F_tenurekit_SameTerm.call a b h K' X' :=
  CallH.mono H (fun v h' ⟨r0, e, k⟩ => ⟨r0, e, hk _ _ k⟩) hx

def F_tenurekit_SameTerms.call (a : Sl) (b : Sl) (h : Hp) (K : Bool → Hp → Prop) (X : Chain → Hp → Prop) : Prop :=
  CallH Tryz.prog 32 #[sl a, sl b] h (fun v h' => ∃ (r0 : Bool), v = .bool r0 ∧ K r0 h') X
theorem F_tenurekit_SameTerms.mono {a : Sl} {b : Sl} {h : Hp} {K K' : Bool → Hp → Prop} {X X' : Chain → Hp → Prop} (H : F_tenurekit_SameTerms.call a b h K X) (hk : ∀ r0 h', K r0 h' → K' r0 h') (hx : ∀ c h', X c h' → X' c h') : F_tenurekit_SameTerms.call a b h K' X' :=
  CallH.mono H (fun v h' ⟨r0, e, k⟩ => ⟨r0, e, hk _ _ k⟩) hx

def F_tenurekit_I.call (n : Int) (h : Hp) (K : V_api_Term → Hp → Prop) (X : Chain → Hp → Prop) : Prop :=
  CallH Tryz.prog 33 #[.int .i64 n] h (fun v h' => ∃ (r0 : V_api_Term), v = .agg r0.cells.toArray ∧ K r0 h') X
theorem F_tenurekit_I.mono {n : Int} {h : Hp} {K K' : V_api_Term → Hp → Prop} {X X' : Chain → Hp → Prop} (H : F_tenurekit_I.call n h K X) (hk : ∀ r0 h', K r0 h' → K' r0 h') (hx : ∀ c h', X c h' → X' c h') : F_tenurekit_I.call n h K' X' :=
  CallH.mono H (fun v h' ⟨r0, e, k⟩ => ⟨r0, e, hk _ _ k⟩) hx

def F_tenurekit_A.call (s : Str) (h : Hp) (K : V_api_Term → Hp → Prop) (X : Chain → Hp → Prop) : Prop :=
  CallH Tryz.prog 34 #[.string (ba s)] h (fun v h' => ∃ (r0 : V_api_Term), v = .agg r0.cells.toArray ∧ K r0 h') X
theorem F_tenurekit_A.mono {s : Str} {h : Hp} {K K' : V_api_Term → Hp → Prop} {X X' : Chain → Hp → Prop} (H : F_tenurekit_A.call s h K X) (hk : ∀ r0 h', K r0 h' → K' r0 h') (hx : ∀ c h', X c h' → X' c h') : F_tenurekit_A.call s h K' X' :=
  CallH.mono H (fun v h' ⟨r0, e, k⟩ => ⟨r0, e, hk _ _ k⟩) hx

def F_tenurelaw31_refused.call (line : Str) (want : Int) (h : Hp) (K : Bool → Hp → Prop) (X : Chain → Hp → Prop) : Prop :=
  CallH Tryz.prog 35 #[.string (ba line), .int .i64 want] h (fun v h' => ∃ (r0 : Bool), v = .bool r0 ∧ K r0 h') X
theorem F_tenurelaw31_refused.mono {line : Str} {want : Int} {h : Hp} {K K' : Bool → Hp → Prop} {X X' : Chain → Hp → Prop} (H : F_tenurelaw31_refused.call line want h K X) (hk : ∀ r0 h', K r0 h' → K' r0 h') (hx : ∀ c h', X c h' → X' c h') : F_tenurelaw31_refused.call line want h K' X' :=
  CallH.mono H (fun v h' ⟨r0, e, k⟩ => ⟨r0, e, hk _ _ k⟩) hx

def F_strings_SplitSeq.call (s : Str) (sep : Str) (h : Hp) (K : Value → Hp → Prop) (X : Chain → Hp → Prop) : Prop :=
  CallH Tryz.prog 36 #[.string (ba s), .string (ba sep)] h (fun v h' => ∃ (r0 : Value), v = r0 ∧ K r0 h') X
theorem F_strings_SplitSeq.mono {s : Str} {sep : Str} {h : Hp} {K K' : Value → Hp → Prop} {X X' : Chain → Hp → Prop} (H : F_strings_SplitSeq.call s sep h K X) (hk : ∀ r0 h', K r0 h' → K' r0 h') (hx : ∀ c h', X c h' → X' c h') : F_strings_SplitSeq.call s sep h K' X' :=
  CallH.mono H (fun v h' ⟨r0, e, k⟩ => ⟨r0, e, hk _ _ k⟩) hx

def F_strings_Builder_WriteString.call (b : Option Addr) (s : Str) (h : Hp) (K : Int → Ifc → Hp → Prop) (X : Chain → Hp → Prop) : Prop :=
  CallH Tryz.prog 39 #[.pointer b, .string (ba s)] h (fun v h' => ∃ (r0 : Int) (r1 : Ifc), v = .tuple #[.int .i64 r0, ifc r1] ∧ K r0 r1 h') X
theorem F_strings_Builder_WriteString.mono {b : Option Addr} {s : Str} {h : Hp} {K K' : Int → Ifc → Hp → Prop} {X X' : Chain → Hp → Prop} (H : F_strings_Builder_WriteString.call b s h K X) (hk : ∀ r0 r1 h', K r0 r1 h' → K' r0 r1 h') (hx : ∀ c h', X c h' → X' c h') : F_strings_Builder_WriteString.call b s h K' X' :=
  CallH.mono H (fun v h' ⟨r0, r1, e, k⟩ => ⟨r0, r1, e, hk _ _ _ k⟩) hx

def F_strconv_Itoa.call (i : Int) (h : Hp) (K : Str → Hp → Prop) (X : Chain → Hp → Prop) : Prop :=
  CallH Tryz.prog 43 #[.int .i64 i] h (fun v h' => ∃ (r0 : Str), v = .string (ba r0) ∧ K r0 h') X
theorem F_strconv_Itoa.mono {i : Int} {h : Hp} {K K' : Str → Hp → Prop} {X X' : Chain → Hp → Prop} (H : F_strconv_Itoa.call i h K X) (hk : ∀ r0 h', K r0 h' → K' r0 h') (hx : ∀ c h', X c h' → X' c h') : F_strconv_Itoa.call i h K' X' :=
  CallH.mono H (fun v h' ⟨r0, e, k⟩ => ⟨r0, e, hk _ _ k⟩) hx

def F_strings_Builder_String.call (b : Option Addr) (h : Hp) (K : Str → Hp → Prop) (X : Chain → Hp → Prop) : Prop :=
  CallH Tryz.prog 45 #[.pointer b] h (fun v h' => ∃ (r0 : Str), v = .string (ba r0) ∧ K r0 h') X
theorem F_strings_Builder_String.mono {b : Option Addr} {h : Hp} {K K' : Str → Hp → Prop} {X X' : Chain → Hp → Prop} (H : F_strings_Builder_String.call b h K X) (hk : ∀ r0 h', K r0 h' → K' r0 h') (hx : ∀ c h', X c h' → X' c h') : F_strings_Builder_String.call b h K' X' :=
  CallH.mono H (fun v h' ⟨r0, e, k⟩ => ⟨r0, e, hk _ _ k⟩) hx

def F_term_Items.call (t : V_api_Term) (h : Hp) (K : Sl → Bool → Hp → Prop) (X : Chain → Hp → Prop) : Prop :=
  CallH Tryz.prog 51 #[.agg #[.int .i64 t.Kind, .int .i64 t.N, .string (ba t.S), sl t.L]] h (fun v h' => ∃ (r0 : Sl) (r1 : Bool), v = .tuple #[sl r0, .bool r1] ∧ K r0 r1 h') X
theorem F_term_Items.mono {t : V_api_Term} {h : Hp} {K K' : Sl → Bool → Hp → Prop} {X X' : Chain → Hp → Prop} (H : F_term_Items.call t h K X) (hk : ∀ r0 r1 h', K r0 r1 h' → K' r0 r1 h') (hx : ∀ c h', X c h' → X' c h') : F_term_Items.call t h K' X' :=
  CallH.mono H (fun v h' ⟨r0, r1, e, k⟩ => ⟨r0, r1, e, hk _ _ _ k⟩) hx

def F_text_read.call (s : Str) (h : Hp) (K : V_api_Term → Bool → Hp → Prop) (X : Chain → Hp → Prop) : Prop :=
  CallH Tryz.prog 52 #[.string (ba s)] h (fun v h' => ∃ (r0 : V_api_Term) (r1 : Bool), v = .tuple #[.agg r0.cells.toArray, .bool r1] ∧ K r0 r1 h') X
theorem F_text_read.mono {s : Str} {h : Hp} {K K' : V_api_Term → Bool → Hp → Prop} {X X' : Chain → Hp → Prop} (H : F_text_read.call s h K X) (hk : ∀ r0 r1 h', K r0 r1 h' → K' r0 r1 h') (hx : ∀ c h', X c h' → X' c h') : F_text_read.call s h K' X' :=
  CallH.mono H (fun v h' ⟨r0, r1, e, k⟩ => ⟨r0, r1, e, hk _ _ _ k⟩) hx

def F_term_Check.call (t : V_api_Term) (h : Hp) (K : Int → Hp → Prop) (X : Chain → Hp → Prop) : Prop :=
  CallH Tryz.prog 53 #[.agg #[.int .i64 t.Kind, .int .i64 t.N, .string (ba t.S), sl t.L]] h (fun v h' => ∃ (r0 : Int), v = .int .i64 r0 ∧ K r0 h') X
theorem F_term_Check.mono {t : V_api_Term} {h : Hp} {K K' : Int → Hp → Prop} {X X' : Chain → Hp → Prop} (H : F_term_Check.call t h K X) (hk : ∀ r0 h', K r0 h' → K' r0 h') (hx : ∀ c h', X c h' → X' c h') : F_term_Check.call t h K' X' :=
  CallH.mono H (fun v h' ⟨r0, e, k⟩ => ⟨r0, e, hk _ _ k⟩) hx

def F_strconv_Atoi.call (s : Str) (h : Hp) (K : Int → Ifc → Hp → Prop) (X : Chain → Hp → Prop) : Prop :=
  CallH Tryz.prog 54 #[.string (ba s)] h (fun v h' => ∃ (r0 : Int) (r1 : Ifc), v = .tuple #[.int .i64 r0, ifc r1] ∧ K r0 r1 h') X
theorem F_strconv_Atoi.mono {s : Str} {h : Hp} {K K' : Int → Ifc → Hp → Prop} {X X' : Chain → Hp → Prop} (H : F_strconv_Atoi.call s h K X) (hk : ∀ r0 r1 h', K r0 r1 h' → K' r0 r1 h') (hx : ∀ c h', X c h' → X' c h') : F_strconv_Atoi.call s h K' X' :=
  CallH.mono H (fun v h' ⟨r0, r1, e, k⟩ => ⟨r0, r1, e, hk _ _ _ k⟩) hx

def F_tenureref31_items.call (t : V_api_Term) (h : Hp) (K : Sl → Bool → Hp → Prop) (X : Chain → Hp → Prop) : Prop :=
  CallH Tryz.prog 55 #[.agg #[.int .i64 t.Kind, .int .i64 t.N, .string (ba t.S), sl t.L]] h (fun v h' => ∃ (r0 : Sl) (r1 : Bool), v = .tuple #[sl r0, .bool r1] ∧ K r0 r1 h') X
theorem F_tenureref31_items.mono {t : V_api_Term} {h : Hp} {K K' : Sl → Bool → Hp → Prop} {X X' : Chain → Hp → Prop} (H : F_tenureref31_items.call t h K X) (hk : ∀ r0 r1 h', K r0 r1 h' → K' r0 r1 h') (hx : ∀ c h', X c h' → X' c h') : F_tenureref31_items.call t h K' X' :=
  CallH.mono H (fun v h' ⟨r0, r1, e, k⟩ => ⟨r0, r1, e, hk _ _ _ k⟩) hx

def F_tenureref05_reader_term.call (r : Option Addr) (h : Hp) (K : V_api_Term → Hp → Prop) (X : Chain → Hp → Prop) : Prop :=
  CallH Tryz.prog 56 #[.pointer r] h (fun v h' => ∃ (r0 : V_api_Term), v = .agg r0.cells.toArray ∧ K r0 h') X
theorem F_tenureref05_reader_term.mono {r : Option Addr} {h : Hp} {K K' : V_api_Term → Hp → Prop} {X X' : Chain → Hp → Prop} (H : F_tenureref05_reader_term.call r h K X) (hk : ∀ r0 h', K r0 h' → K' r0 h') (hx : ∀ c h', X c h' → X' c h') : F_tenureref05_reader_term.call r h K' X' :=
  CallH.mono H (fun v h' ⟨r0, e, k⟩ => ⟨r0, e, hk _ _ k⟩) hx

def F_tenureref02_Check.call (t : V_api_Term) (h : Hp) (K : Int → Hp → Prop) (X : Chain → Hp → Prop) : Prop :=
  CallH Tryz.prog 57 #[.agg #[.int .i64 t.Kind, .int .i64 t.N, .string (ba t.S), sl t.L]] h (fun v h' => ∃ (r0 : Int), v = .int .i64 r0 ∧ K r0 h') X
theorem F_tenureref02_Check.mono {t : V_api_Term} {h : Hp} {K K' : Int → Hp → Prop} {X X' : Chain → Hp → Prop} (H : F_tenureref02_Check.call t h K X) (hk : ∀ r0 h', K r0 h' → K' r0 h') (hx : ∀ c h', X c h' → X' c h') : F_tenureref02_Check.call t h K' X' :=
  CallH.mono H (fun v h' ⟨r0, e, k⟩ => ⟨r0, e, hk _ _ k⟩) hx

def F_strings_splitSeq.call (s : Str) (sep : Str) (sepSave : Int) (h : Hp) (K : Value → Hp → Prop) (X : Chain → Hp → Prop) : Prop :=
  CallH Tryz.prog 58 #[.string (ba s), .string (ba sep), .int .i64 sepSave] h (fun v h' => ∃ (r0 : Value), v = r0 ∧ K r0 h') X
theorem F_strings_splitSeq.mono {s : Str} {sep : Str} {sepSave : Int} {h : Hp} {K K' : Value → Hp → Prop} {X X' : Chain → Hp → Prop} (H : F_strings_splitSeq.call s sep sepSave h K X) (hk : ∀ r0 h', K r0 h' → K' r0 h') (hx : ∀ c h', X c h' → X' c h') : F_strings_splitSeq.call s sep sepSave h K' X' :=
  CallH.mono H (fun v h' ⟨r0, e, k⟩ => ⟨r0, e, hk _ _ k⟩) hx

def F_strings_Builder_copyCheck.call (b : Option Addr) (h : Hp) (K : Hp → Prop) (X : Chain → Hp → Prop) : Prop :=
  CallH Tryz.prog 60 #[.pointer b] h (fun v h' => v = .tuple #[] ∧ K h') X
theorem F_strings_Builder_copyCheck.mono {b : Option Addr} {h : Hp} {K K' : Hp → Prop} {X X' : Chain → Hp → Prop} (H : F_strings_Builder_copyCheck.call b h K X) (hk : ∀  h', K  h' → K'  h') (hx : ∀ c h', X c h' → X' c h') : F_strings_Builder_copyCheck.call b h K' X' :=
  CallH.mono H (fun v h' ⟨e, k⟩ => ⟨e, hk  _ k⟩) hx

def F_term_MakeList.call (l : Sl) (a1_tail : V_api_Term) (h : Hp) (K : V_api_Term → Hp → Prop) (X : Chain → Hp → Prop) : Prop :=
  CallH Tryz.prog 62 #[sl l, .agg #[.int .i64 a1_tail.Kind, .int .i64 a1_tail.N, .string (ba a1_tail.S), sl a1_tail.L]] h (fun v h' => ∃ (r0 : V_api_Term), v = .agg r0.cells.toArray ∧ K r0 h') X
theorem F_term_MakeList.mono {l : Sl} {a1_tail : V_api_Term} {h : Hp} {K K' : V_api_Term → Hp → Prop} {X X' : Chain → Hp → Prop} (H : F_term_MakeList.call l a1_tail h K X) (hk : ∀ r0 h', K r0 h' → K' r0 h') (hx : ∀ c h', X c h' → X' c h') : F_term_MakeList.call l a1_tail h K' X' :=
  CallH.mono H (fun v h' ⟨r0, e, k⟩ => ⟨r0, e, hk _ _ k⟩) hx

def F_tenureref05_Text.call (t : V_api_Term) (h : Hp) (K : Str → Hp → Prop) (X : Chain → Hp → Prop) : Prop :=
  CallH Tryz.prog 65 #[.agg #[.int .i64 t.Kind, .int .i64 t.N, .string (ba t.S), sl t.L]] h (fun v h' => ∃ (r0 : Str), v = .string (ba r0) ∧ K r0 h') X
theorem F_tenureref05_Text.mono {t : V_api_Term} {h : Hp} {K K' : Str → Hp → Prop} {X X' : Chain → Hp → Prop} (H : F_tenureref05_Text.call t h K X) (hk : ∀ r0 h', K r0 h' → K' r0 h') (hx : ∀ c h', X c h' → X' c h') : F_tenureref05_Text.call t h K' X' :=
  CallH.mono H (fun v h' ⟨r0, e, k⟩ => ⟨r0, e, hk _ _ k⟩) hx

def F_text_read_1.call (free0 : Addr) (free1 : Addr) (h : Hp) (K : Hp → Prop) (X : Chain → Hp → Prop) : Prop :=
  CallH Tryz.prog 67 #[.pointer (some free0), .pointer (some free1)] h (fun v h' => v = .tuple #[] ∧ K h') X
theorem F_text_read_1.mono {free0 : Addr} {free1 : Addr} {h : Hp} {K K' : Hp → Prop} {X X' : Chain → Hp → Prop} (H : F_text_read_1.call free0 free1 h K X) (hk : ∀  h', K  h' → K'  h') (hx : ∀ c h', X c h' → X' c h') : F_text_read_1.call free0 free1 h K' X' :=
  CallH.mono H (fun v h' ⟨e, k⟩ => ⟨e, hk  _ k⟩) hx

def F_text_cursor_term.call (c : Option Addr) (h : Hp) (K : V_api_Term → Hp → Prop) (X : Chain → Hp → Prop) : Prop :=
  CallH Tryz.prog 68 #[.pointer c] h (fun v h' => ∃ (r0 : V_api_Term), v = .agg r0.cells.toArray ∧ K r0 h') X
theorem F_text_cursor_term.mono {c : Option Addr} {h : Hp} {K K' : V_api_Term → Hp → Prop} {X X' : Chain → Hp → Prop} (H : F_text_cursor_term.call c h K X) (hk : ∀ r0 h', K r0 h' → K' r0 h') (hx : ∀ c h', X c h' → X' c h') : F_text_cursor_term.call c h K' X' :=
  CallH.mono H (fun v h' ⟨r0, e, k⟩ => ⟨r0, e, hk _ _ k⟩) hx

def F_term_parts.call (t : V_api_Term) (h : Hp) (K : Value → Hp → Prop) (X : Chain → Hp → Prop) : Prop :=
  CallH Tryz.prog 69 #[.agg #[.int .i64 t.Kind, .int .i64 t.N, .string (ba t.S), sl t.L]] h (fun v h' => ∃ (r0 : Value), v = r0 ∧ K r0 h') X
theorem F_term_parts.mono {t : V_api_Term} {h : Hp} {K K' : Value → Hp → Prop} {X X' : Chain → Hp → Prop} (H : F_term_parts.call t h K X) (hk : ∀ r0 h', K r0 h' → K' r0 h') (hx : ∀ c h', X c h' → X' c h') : F_term_parts.call t h K' X' :=
  CallH.mono H (fun v h' ⟨r0, e, k⟩ => ⟨r0, e, hk _ _ k⟩) hx

def F_term_sound.call (t : V_api_Term) (h : Hp) (K : Bool → Hp → Prop) (X : Chain → Hp → Prop) : Prop :=
  CallH Tryz.prog 70 #[.agg #[.int .i64 t.Kind, .int .i64 t.N, .string (ba t.S), sl t.L]] h (fun v h' => ∃ (r0 : Bool), v = .bool r0 ∧ K r0 h') X
theorem F_term_sound.mono {t : V_api_Term} {h : Hp} {K K' : Bool → Hp → Prop} {X X' : Chain → Hp → Prop} (H : F_term_sound.call t h K X) (hk : ∀ r0 h', K r0 h' → K' r0 h') (hx : ∀ c h', X c h' → X' c h') : F_term_sound.call t h K' X' :=
  CallH.mono H (fun v h' ⟨r0, e, k⟩ => ⟨r0, e, hk _ _ k⟩) hx

def F_term_own.call (t : V_api_Term) (h : Hp) (K : Int → Hp → Prop) (X : Chain → Hp → Prop) : Prop :=
  CallH Tryz.prog 71 #[.agg #[.int .i64 t.Kind, .int .i64 t.N, .string (ba t.S), sl t.L]] h (fun v h' => ∃ (r0 : Int), v = .int .i64 r0 ∧ K r0 h') X
theorem F_term_own.mono {t : V_api_Term} {h : Hp} {K K' : Int → Hp → Prop} {X X' : Chain → Hp → Prop} (H : F_term_own.call t h K X) (hk : ∀ r0 h', K r0 h' → K' r0 h') (hx : ∀ c h', X c h' → X' c h') : F_term_own.call t h K' X' :=
  CallH.mono H (fun v h' ⟨r0, e, k⟩ => ⟨r0, e, hk _ _ k⟩) hx

def F_tenureref05_reader_next.call (r : Option Addr) (h : Hp) (K : Int → Hp → Prop) (X : Chain → Hp → Prop) : Prop :=
  CallH Tryz.prog 74 #[.pointer r] h (fun v h' => ∃ (r0 : Int), v = .int .u8 r0 ∧ K r0 h') X
theorem F_tenureref05_reader_next.mono {r : Option Addr} {h : Hp} {K K' : Int → Hp → Prop} {X X' : Chain → Hp → Prop} (H : F_tenureref05_reader_next.call r h K X) (hk : ∀ r0 h', K r0 h' → K' r0 h') (hx : ∀ c h', X c h' → X' c h') : F_tenureref05_reader_next.call r h K' X' :=
  CallH.mono H (fun v h' ⟨r0, e, k⟩ => ⟨r0, e, hk _ _ k⟩) hx

def F_tenureref05_within.call (c : Int) (a1_from : Int) (to : Int) (h : Hp) (K : Bool → Hp → Prop) (X : Chain → Hp → Prop) : Prop :=
  CallH Tryz.prog 75 #[.int .u8 c, .int .u8 a1_from, .int .u8 to] h (fun v h' => ∃ (r0 : Bool), v = .bool r0 ∧ K r0 h') X
theorem F_tenureref05_within.mono {c : Int} {a1_from : Int} {to : Int} {h : Hp} {K K' : Bool → Hp → Prop} {X X' : Chain → Hp → Prop} (H : F_tenureref05_within.call c a1_from to h K X) (hk : ∀ r0 h', K r0 h' → K' r0 h') (hx : ∀ c h', X c h' → X' c h') : F_tenureref05_within.call c a1_from to h K' X' :=
  CallH.mono H (fun v h' ⟨r0, e, k⟩ => ⟨r0, e, hk _ _ k⟩) hx

def F_tenureref05_reader_number.call (r : Option Addr) (least : Int) (most : Int) (h : Hp) (K : Int → Hp → Prop) (X : Chain → Hp → Prop) : Prop :=
  CallH Tryz.prog 76 #[.pointer r, .int .i64 least, .int .i64 most] h (fun v h' => ∃ (r0 : Int), v = .int .i64 r0 ∧ K r0 h') X
theorem F_tenureref05_reader_number.mono {r : Option Addr} {least : Int} {most : Int} {h : Hp} {K K' : Int → Hp → Prop} {X X' : Chain → Hp → Prop} (H : F_tenureref05_reader_number.call r least most h K X) (hk : ∀ r0 h', K r0 h' → K' r0 h') (hx : ∀ c h', X c h' → X' c h') : F_tenureref05_reader_number.call r least most h K' X' :=
  CallH.mono H (fun v h' ⟨r0, e, k⟩ => ⟨r0, e, hk _ _ k⟩) hx

def F_tenureref05_reader_quoted.call (r : Option Addr) (h : Hp) (K : V_api_Term → Hp → Prop) (X : Chain → Hp → Prop) : Prop :=
  CallH Tryz.prog 77 #[.pointer r] h (fun v h' => ∃ (r0 : V_api_Term), v = .agg r0.cells.toArray ∧ K r0 h') X
theorem F_tenureref05_reader_quoted.mono {r : Option Addr} {h : Hp} {K K' : V_api_Term → Hp → Prop} {X X' : Chain → Hp → Prop} (H : F_tenureref05_reader_quoted.call r h K X) (hk : ∀ r0 h', K r0 h' → K' r0 h') (hx : ∀ c h', X c h' → X' c h') : F_tenureref05_reader_quoted.call r h K' X' :=
  CallH.mono H (fun v h' ⟨r0, e, k⟩ => ⟨r0, e, hk _ _ k⟩) hx

def F_tenureref05_reader_plain.call (r : Option Addr) (h : Hp) (K : V_api_Term → Hp → Prop) (X : Chain → Hp → Prop) : Prop :=
  CallH Tryz.prog 78 #[.pointer r] h (fun v h' => ∃ (r0 : V_api_Term), v = .agg r0.cells.toArray ∧ K r0 h') X
theorem F_tenureref05_reader_plain.mono {r : Option Addr} {h : Hp} {K K' : V_api_Term → Hp → Prop} {X X' : Chain → Hp → Prop} (H : F_tenureref05_reader_plain.call r h K X) (hk : ∀ r0 h', K r0 h' → K' r0 h') (hx : ∀ c h', X c h' → X' c h') : F_tenureref05_reader_plain.call r h K' X' :=
  CallH.mono H (fun v h' ⟨r0, e, k⟩ => ⟨r0, e, hk _ _ k⟩) hx

def F_tenureref05_reader_numbered.call (r : Option Addr) (kind : Int) (ahead : Str) (behind : Str) (h : Hp) (K : V_api_Term → Hp → Prop) (X : Chain → Hp → Prop) : Prop :=
  CallH Tryz.prog 79 #[.pointer r, .int .i64 kind, .string (ba ahead), .string (ba behind)] h (fun v h' => ∃ (r0 : V_api_Term), v = .agg r0.cells.toArray ∧ K r0 h') X
theorem F_tenureref05_reader_numbered.mono {r : Option Addr} {kind : Int} {ahead : Str} {behind : Str} {h : Hp} {K K' : V_api_Term → Hp → Prop} {X X' : Chain → Hp → Prop} (H : F_tenureref05_reader_numbered.call r kind ahead behind h K X) (hk : ∀ r0 h', K r0 h' → K' r0 h') (hx : ∀ c h', X c h' → X' c h') : F_tenureref05_reader_numbered.call r kind ahead behind h K' X' :=
  CallH.mono H (fun v h' ⟨r0, e, k⟩ => ⟨r0, e, hk _ _ k⟩) hx

def F_tenureref05_reader_starts.call (r : Option Addr) (s : Str) (h : Hp) (K : Bool → Hp → Prop) (X : Chain → Hp → Prop) : Prop :=
  CallH Tryz.prog 80 #[.pointer r, .string (ba s)] h (fun v h' => ∃ (r0 : Bool), v = .bool r0 ∧ K r0 h') X
theorem F_tenureref05_reader_starts.mono {r : Option Addr} {s : Str} {h : Hp} {K K' : Bool → Hp → Prop} {X X' : Chain → Hp → Prop} (H : F_tenureref05_reader_starts.call r s h K X) (hk : ∀ r0 h', K r0 h' → K' r0 h') (hx : ∀ c h', X c h' → X' c h') : F_tenureref05_reader_starts.call r s h K' X' :=
  CallH.mono H (fun v h' ⟨r0, e, k⟩ => ⟨r0, e, hk _ _ k⟩) hx

def F_tenureref05_reader_fun.call (r : Option Addr) (h : Hp) (K : V_api_Term → Hp → Prop) (X : Chain → Hp → Prop) : Prop :=
  CallH Tryz.prog 81 #[.pointer r] h (fun v h' => ∃ (r0 : V_api_Term), v = .agg r0.cells.toArray ∧ K r0 h') X
theorem F_tenureref05_reader_fun.mono {r : Option Addr} {h : Hp} {K K' : V_api_Term → Hp → Prop} {X X' : Chain → Hp → Prop} (H : F_tenureref05_reader_fun.call r h K X) (hk : ∀ r0 h', K r0 h' → K' r0 h') (hx : ∀ c h', X c h' → X' c h') : F_tenureref05_reader_fun.call r h K' X' :=
  CallH.mono H (fun v h' ⟨r0, e, k⟩ => ⟨r0, e, hk _ _ k⟩) hx

def F_tenureref05_reader_eat.call (r : Option Addr) (s : Str) (h : Hp) (K : Hp → Prop) (X : Chain → Hp → Prop) : Prop :=
  CallH Tryz.prog 82 #[.pointer r, .string (ba s)] h (fun v h' => v = .tuple #[] ∧ K h') X
theorem F_tenureref05_reader_eat.mono {r : Option Addr} {s : Str} {h : Hp} {K K' : Hp → Prop} {X X' : Chain → Hp → Prop} (H : F_tenureref05_reader_eat.call r s h K X) (hk : ∀  h', K  h' → K'  h') (hx : ∀ c h', X c h' → X' c h') : F_tenureref05_reader_eat.call r s h K' X' :=
  CallH.mono H (fun v h' ⟨e, k⟩ => ⟨e, hk  _ k⟩) hx

def F_tenureref05_reader_among.call (r : Option Addr) (a1_end : Str) (h : Hp) (K : Sl → Hp → Prop) (X : Chain → Hp → Prop) : Prop :=
  CallH Tryz.prog 83 #[.pointer r, .string (ba a1_end)] h (fun v h' => ∃ (r0 : Sl), v = sl r0 ∧ K r0 h') X
theorem F_tenureref05_reader_among.mono {r : Option Addr} {a1_end : Str} {h : Hp} {K K' : Sl → Hp → Prop} {X X' : Chain → Hp → Prop} (H : F_tenureref05_reader_among.call r a1_end h K X) (hk : ∀ r0 h', K r0 h' → K' r0 h') (hx : ∀ c h', X c h' → X' c h') : F_tenureref05_reader_among.call r a1_end h K' X' :=
  CallH.mono H (fun v h' ⟨r0, e, k⟩ => ⟨r0, e, hk _ _ k⟩) hx

def F_tenureref05_reader_list.call (r : Option Addr) (h : Hp) (K : V_api_Term → Hp → Prop) (X : Chain → Hp → Prop) : Prop :=
  CallH Tryz.prog 84 #[.pointer r] h (fun v h' => ∃ (r0 : V_api_Term), v = .agg r0.cells.toArray ∧ K r0 h') X
theorem F_tenureref05_reader_list.mono {r : Option Addr} {h : Hp} {K K' : V_api_Term → Hp → Prop} {X X' : Chain → Hp → Prop} (H : F_tenureref05_reader_list.call r h K X) (hk : ∀ r0 h', K r0 h' → K' r0 h') (hx : ∀ c h', X c h' → X' c h') : F_tenureref05_reader_list.call r h K' X' :=
  CallH.mono H (fun v h' ⟨r0, e, k⟩ => ⟨r0, e, hk _ _ k⟩) hx

def F_tenureref02_parts.call (t : V_api_Term) (h : Hp) (K : Bool → Hp → Prop) (X : Chain → Hp → Prop) : Prop :=
  CallH Tryz.prog 85 #[.agg #[.int .i64 t.Kind, .int .i64 t.N, .string (ba t.S), sl t.L]] h (fun v h' => ∃ (r0 : Bool), v = .bool r0 ∧ K r0 h') X
theorem F_tenureref02_parts.mono {t : V_api_Term} {h : Hp} {K K' : Bool → Hp → Prop} {X X' : Chain → Hp → Prop} (H : F_tenureref02_parts.call t h K X) (hk : ∀ r0 h', K r0 h' → K' r0 h') (hx : ∀ c h', X c h' → X' c h') : F_tenureref02_parts.call t h K' X' :=
  CallH.mono H (fun v h' ⟨r0, e, k⟩ => ⟨r0, e, hk _ _ k⟩) hx

def F_tenureref02_Words.call (t : V_api_Term) (h : Hp) (K : Int → Hp → Prop) (X : Chain → Hp → Prop) : Prop :=
  CallH Tryz.prog 86 #[.agg #[.int .i64 t.Kind, .int .i64 t.N, .string (ba t.S), sl t.L]] h (fun v h' => ∃ (r0 : Int), v = .int .i64 r0 ∧ K r0 h') X
theorem F_tenureref02_Words.mono {t : V_api_Term} {h : Hp} {K K' : Int → Hp → Prop} {X X' : Chain → Hp → Prop} (H : F_tenureref02_Words.call t h K X) (hk : ∀ r0 h', K r0 h' → K' r0 h') (hx : ∀ c h', X c h' → X' c h') : F_tenureref02_Words.call t h K' X' :=
  CallH.mono H (fun v h' ⟨r0, e, k⟩ => ⟨r0, e, hk _ _ k⟩) hx

def F_strings_splitSeq_1.call (yield : Value) (free0 : Addr) (free1 : Addr) (free2 : Addr) (h : Hp) (K : Hp → Prop) (X : Chain → Hp → Prop) : Prop :=
  CallH Tryz.prog 87 #[yield, .pointer (some free0), .pointer (some free1), .pointer (some free2)] h (fun v h' => v = .tuple #[] ∧ K h') X
theorem F_strings_splitSeq_1.mono {yield : Value} {free0 : Addr} {free1 : Addr} {free2 : Addr} {h : Hp} {K K' : Hp → Prop} {X X' : Chain → Hp → Prop} (H : F_strings_splitSeq_1.call yield free0 free1 free2 h K X) (hk : ∀  h', K  h' → K'  h') (hx : ∀ c h', X c h' → X' c h') : F_strings_splitSeq_1.call yield free0 free1 free2 h K' X' :=
  CallH.mono H (fun v h' ⟨e, k⟩ => ⟨e, hk  _ k⟩) hx

def F_utf8_DecodeRuneInString.call (s : Str) (h : Hp) (K : Int → Int → Hp → Prop) (X : Chain → Hp → Prop) : Prop :=
  CallH Tryz.prog 88 #[.string (ba s)] h (fun v h' => ∃ (r0 : Int) (r1 : Int), v = .tuple #[.int .i32 r0, .int .i64 r1] ∧ K r0 r1 h') X
theorem F_utf8_DecodeRuneInString.mono {s : Str} {h : Hp} {K K' : Int → Int → Hp → Prop} {X X' : Chain → Hp → Prop} (H : F_utf8_DecodeRuneInString.call s h K X) (hk : ∀ r0 r1 h', K r0 r1 h' → K' r0 r1 h') (hx : ∀ c h', X c h' → X' c h') : F_utf8_DecodeRuneInString.call s h K' X' :=
  CallH.mono H (fun v h' ⟨r0, r1, e, k⟩ => ⟨r0, r1, e, hk _ _ _ k⟩) hx

def F_strings_Index.call (s : Str) (substr : Str) (h : Hp) (K : Int → Hp → Prop) (X : Chain → Hp → Prop) : Prop :=
  CallH Tryz.prog 89 #[.string (ba s), .string (ba substr)] h (fun v h' => ∃ (r0 : Int), v = .int .i64 r0 ∧ K r0 h') X
theorem F_strings_Index.mono {s : Str} {substr : Str} {h : Hp} {K K' : Int → Hp → Prop} {X X' : Chain → Hp → Prop} (H : F_strings_Index.call s substr h K X) (hk : ∀ r0 h', K r0 h' → K' r0 h') (hx : ∀ c h', X c h' → X' c h') : F_strings_Index.call s substr h K' X' :=
  CallH.mono H (fun v h' ⟨r0, e, k⟩ => ⟨r0, e, hk _ _ k⟩) hx

def F_text_Plain.call (s : Str) (h : Hp) (K : Bool → Hp → Prop) (X : Chain → Hp → Prop) : Prop :=
  CallH Tryz.prog 91 #[.string (ba s)] h (fun v h' => ∃ (r0 : Bool), v = .bool r0 ∧ K r0 h') X
theorem F_text_Plain.mono {s : Str} {h : Hp} {K K' : Bool → Hp → Prop} {X X' : Chain → Hp → Prop} (H : F_text_Plain.call s h K X) (hk : ∀ r0 h', K r0 h' → K' r0 h') (hx : ∀ c h', X c h' → X' c h') : F_text_Plain.call s h K' X' :=
  CallH.mono H (fun v h' ⟨r0, e, k⟩ => ⟨r0, e, hk _ _ k⟩) hx

def F_text_quoted.call (s : Str) (h : Hp) (K : Str → Hp → Prop) (X : Chain → Hp → Prop) : Prop :=
  CallH Tryz.prog 92 #[.string (ba s)] h (fun v h' => ∃ (r0 : Str), v = .string (ba r0) ∧ K r0 h') X
theorem F_text_quoted.mono {s : Str} {h : Hp} {K K' : Str → Hp → Prop} {X X' : Chain → Hp → Prop} (H : F_text_quoted.call s h K X) (hk : ∀ r0 h', K r0 h' → K' r0 h') (hx : ∀ c h', X c h' → X' c h') : F_text_quoted.call s h K' X' :=
  CallH.mono H (fun v h' ⟨r0, e, k⟩ => ⟨r0, e, hk _ _ k⟩) hx

def F_strings_Builder_WriteByte.call (b : Option Addr) (c : Int) (h : Hp) (K : Ifc → Hp → Prop) (X : Chain → Hp → Prop) : Prop :=
  CallH Tryz.prog 93 #[.pointer b, .int .u8 c] h (fun v h' => ∃ (r0 : Ifc), v = ifc r0 ∧ K r0 h') X
theorem F_strings_Builder_WriteByte.mono {b : Option Addr} {c : Int} {h : Hp} {K K' : Ifc → Hp → Prop} {X X' : Chain → Hp → Prop} (H : F_strings_Builder_WriteByte.call b c h K X) (hk : ∀ r0 h', K r0 h' → K' r0 h') (hx : ∀ c h', X c h' → X' c h') : F_strings_Builder_WriteByte.call b c h K' X' :=
  CallH.mono H (fun v h' ⟨r0, e, k⟩ => ⟨r0, e, hk _ _ k⟩) hx

def F_slices_Backward_api_Term_api_Term.call (s : Sl) (h : Hp) (K : Value → Hp → Prop) (X : Chain → Hp → Prop) : Prop :=
  CallH Tryz.prog 96 #[sl s] h (fun v h' => ∃ (r0 : Value), v = r0 ∧ K r0 h') X
theorem F_slices_Backward_api_Term_api_Term.mono {s : Sl} {h : Hp} {K K' : Value → Hp → Prop} {X X' : Chain → Hp → Prop} (H : F_slices_Backward_api_Term_api_Term.call s h K X) (hk : ∀ r0 h', K r0 h' → K' r0 h') (hx : ∀ c h', X c h' → X' c h') : F_slices_Backward_api_Term_api_Term.call s h K' X' :=
  CallH.mono H (fun v h' ⟨r0, e, k⟩ => ⟨r0, e, hk _ _ k⟩) hx

def F_tenureref05_Dec.call (n : Int) (h : Hp) (K : Str → Hp → Prop) (X : Chain → Hp → Prop) : Prop :=
  CallH Tryz.prog 98 #[.int .i64 n] h (fun v h' => ∃ (r0 : Str), v = .string (ba r0) ∧ K r0 h') X
theorem F_tenureref05_Dec.mono {n : Int} {h : Hp} {K K' : Str → Hp → Prop} {X X' : Chain → Hp → Prop} (H : F_tenureref05_Dec.call n h K X) (hk : ∀ r0 h', K r0 h' → K' r0 h') (hx : ∀ c h', X c h' → X' c h') : F_tenureref05_Dec.call n h K' X' :=
  CallH.mono H (fun v h' ⟨r0, e, k⟩ => ⟨r0, e, hk _ _ k⟩) hx

def F_tenureref05_Plain.call (s : Str) (h : Hp) (K : Bool → Hp → Prop) (X : Chain → Hp → Prop) : Prop :=
  CallH Tryz.prog 99 #[.string (ba s)] h (fun v h' => ∃ (r0 : Bool), v = .bool r0 ∧ K r0 h') X
theorem F_tenureref05_Plain.mono {s : Str} {h : Hp} {K K' : Bool → Hp → Prop} {X X' : Chain → Hp → Prop} (H : F_tenureref05_Plain.call s h K X) (hk : ∀ r0 h', K r0 h' → K' r0 h') (hx : ∀ c h', X c h' → X' c h') : F_tenureref05_Plain.call s h K' X' :=
  CallH.mono H (fun v h' ⟨r0, e, k⟩ => ⟨r0, e, hk _ _ k⟩) hx

def F_tenureref05_quoted.call (s : Str) (h : Hp) (K : Str → Hp → Prop) (X : Chain → Hp → Prop) : Prop :=
  CallH Tryz.prog 100 #[.string (ba s)] h (fun v h' => ∃ (r0 : Str), v = .string (ba r0) ∧ K r0 h') X
theorem F_tenureref05_quoted.mono {s : Str} {h : Hp} {K K' : Str → Hp → Prop} {X X' : Chain → Hp → Prop} (H : F_tenureref05_quoted.call s h K X) (hk : ∀ r0 h', K r0 h' → K' r0 h') (hx : ∀ c h', X c h' → X' c h') : F_tenureref05_quoted.call s h K' X' :=
  CallH.mono H (fun v h' ⟨r0, e, k⟩ => ⟨r0, e, hk _ _ k⟩) hx

def F_tenureref05_all.call (l : Sl) (h : Hp) (K : Str → Hp → Prop) (X : Chain → Hp → Prop) : Prop :=
  CallH Tryz.prog 101 #[sl l] h (fun v h' => ∃ (r0 : Str), v = .string (ba r0) ∧ K r0 h') X
theorem F_tenureref05_all.mono {l : Sl} {h : Hp} {K K' : Str → Hp → Prop} {X X' : Chain → Hp → Prop} (H : F_tenureref05_all.call l h K X) (hk : ∀ r0 h', K r0 h' → K' r0 h') (hx : ∀ c h', X c h' → X' c h') : F_tenureref05_all.call l h K' X' :=
  CallH.mono H (fun v h' ⟨r0, e, k⟩ => ⟨r0, e, hk _ _ k⟩) hx

def F_text_cursor_is.call (c : Option Addr) (s : Str) (h : Hp) (K : Bool → Hp → Prop) (X : Chain → Hp → Prop) : Prop :=
  CallH Tryz.prog 106 #[.pointer c, .string (ba s)] h (fun v h' => ∃ (r0 : Bool), v = .bool r0 ∧ K r0 h') X
theorem F_text_cursor_is.mono {c : Option Addr} {s : Str} {h : Hp} {K K' : Bool → Hp → Prop} {X X' : Chain → Hp → Prop} (H : F_text_cursor_is.call c s h K X) (hk : ∀ r0 h', K r0 h' → K' r0 h') (hx : ∀ c h', X c h' → X' c h') : F_text_cursor_is.call c s h K' X' :=
  CallH.mono H (fun v h' ⟨r0, e, k⟩ => ⟨r0, e, hk _ _ k⟩) hx

def F_text_cursor_all.call (c : Option Addr) (a1_end : Str) (h : Hp) (K : Sl → Hp → Prop) (X : Chain → Hp → Prop) : Prop :=
  CallH Tryz.prog 107 #[.pointer c, .string (ba a1_end)] h (fun v h' => ∃ (r0 : Sl), v = sl r0 ∧ K r0 h') X
theorem F_text_cursor_all.mono {c : Option Addr} {a1_end : Str} {h : Hp} {K K' : Sl → Hp → Prop} {X X' : Chain → Hp → Prop} (H : F_text_cursor_all.call c a1_end h K X) (hk : ∀ r0 h', K r0 h' → K' r0 h') (hx : ∀ c h', X c h' → X' c h') : F_text_cursor_all.call c a1_end h K' X' :=
  CallH.mono H (fun v h' ⟨r0, e, k⟩ => ⟨r0, e, hk _ _ k⟩) hx

def F_text_cursor_list.call (c : Option Addr) (h : Hp) (K : V_api_Term → Hp → Prop) (X : Chain → Hp → Prop) : Prop :=
  CallH Tryz.prog 108 #[.pointer c] h (fun v h' => ∃ (r0 : V_api_Term), v = .agg r0.cells.toArray ∧ K r0 h') X
theorem F_text_cursor_list.mono {c : Option Addr} {h : Hp} {K K' : V_api_Term → Hp → Prop} {X X' : Chain → Hp → Prop} (H : F_text_cursor_list.call c h K X) (hk : ∀ r0 h', K r0 h' → K' r0 h') (hx : ∀ c h', X c h' → X' c h') : F_text_cursor_list.call c h K' X' :=
  CallH.mono H (fun v h' ⟨r0, e, k⟩ => ⟨r0, e, hk _ _ k⟩) hx

def F_text_cursor_quoted.call (c : Option Addr) (h : Hp) (K : V_api_Term → Hp → Prop) (X : Chain → Hp → Prop) : Prop :=
  CallH Tryz.prog 109 #[.pointer c] h (fun v h' => ∃ (r0 : V_api_Term), v = .agg r0.cells.toArray ∧ K r0 h') X
theorem F_text_cursor_quoted.mono {c : Option Addr} {h : Hp} {K K' : V_api_Term → Hp → Prop} {X X' : Chain → Hp → Prop} (H : F_text_cursor_quoted.call c h K X) (hk : ∀ r0 h', K r0 h' → K' r0 h') (hx : ∀ c h', X c h' → X' c h') : F_text_cursor_quoted.call c h K' X' :=
  CallH.mono H (fun v h' ⟨r0, e, k⟩ => ⟨r0, e, hk _ _ k⟩) hx

def F_text_cursor_named.call (c : Option Addr) (kind : Int) (a2_end : Str) (h : Hp) (K : V_api_Term → Hp → Prop) (X : Chain → Hp → Prop) : Prop :=
  CallH Tryz.prog 110 #[.pointer c, .int .i64 kind, .string (ba a2_end)] h (fun v h' => ∃ (r0 : V_api_Term), v = .agg r0.cells.toArray ∧ K r0 h') X
theorem F_text_cursor_named.mono {c : Option Addr} {kind : Int} {a2_end : Str} {h : Hp} {K K' : V_api_Term → Hp → Prop} {X X' : Chain → Hp → Prop} (H : F_text_cursor_named.call c kind a2_end h K X) (hk : ∀ r0 h', K r0 h' → K' r0 h') (hx : ∀ c h', X c h' → X' c h') : F_text_cursor_named.call c kind a2_end h K' X' :=
  CallH.mono H (fun v h' ⟨r0, e, k⟩ => ⟨r0, e, hk _ _ k⟩) hx

def F_text_cursor_fun.call (c : Option Addr) (h : Hp) (K : V_api_Term → Hp → Prop) (X : Chain → Hp → Prop) : Prop :=
  CallH Tryz.prog 111 #[.pointer c] h (fun v h' => ∃ (r0 : V_api_Term), v = .agg r0.cells.toArray ∧ K r0 h') X
theorem F_text_cursor_fun.mono {c : Option Addr} {h : Hp} {K K' : V_api_Term → Hp → Prop} {X X' : Chain → Hp → Prop} (H : F_text_cursor_fun.call c h K X) (hk : ∀ r0 h', K r0 h' → K' r0 h') (hx : ∀ c h', X c h' → X' c h') : F_text_cursor_fun.call c h K' X' :=
  CallH.mono H (fun v h' ⟨r0, e, k⟩ => ⟨r0, e, hk _ _ k⟩) hx

def F_text_small.call (c : Int) (h : Hp) (K : Bool → Hp → Prop) (X : Chain → Hp → Prop) : Prop :=
  CallH Tryz.prog 112 #[.int .u8 c] h (fun v h' => ∃ (r0 : Bool), v = .bool r0 ∧ K r0 h') X
theorem F_text_small.mono {c : Int} {h : Hp} {K K' : Bool → Hp → Prop} {X X' : Chain → Hp → Prop} (H : F_text_small.call c h K X) (hk : ∀ r0 h', K r0 h' → K' r0 h') (hx : ∀ c h', X c h' → X' c h') : F_text_small.call c h K' X' :=
  CallH.mono H (fun v h' ⟨r0, e, k⟩ => ⟨r0, e, hk _ _ k⟩) hx

def F_text_cursor_plain.call (c : Option Addr) (h : Hp) (K : V_api_Term → Hp → Prop) (X : Chain → Hp → Prop) : Prop :=
  CallH Tryz.prog 113 #[.pointer c] h (fun v h' => ∃ (r0 : V_api_Term), v = .agg r0.cells.toArray ∧ K r0 h') X
theorem F_text_cursor_plain.mono {c : Option Addr} {h : Hp} {K K' : V_api_Term → Hp → Prop} {X X' : Chain → Hp → Prop} (H : F_text_cursor_plain.call c h K X) (hk : ∀ r0 h', K r0 h' → K' r0 h') (hx : ∀ c h', X c h' → X' c h') : F_text_cursor_plain.call c h K' X' :=
  CallH.mono H (fun v h' ⟨r0, e, k⟩ => ⟨r0, e, hk _ _ k⟩) hx

def F_text_cursor_number.call (c : Option Addr) (least : Int) (most : Int) (h : Hp) (K : Int → Hp → Prop) (X : Chain → Hp → Prop) : Prop :=
  CallH Tryz.prog 114 #[.pointer c, .int .i64 least, .int .i64 most] h (fun v h' => ∃ (r0 : Int), v = .int .i64 r0 ∧ K r0 h') X
theorem F_text_cursor_number.mono {c : Option Addr} {least : Int} {most : Int} {h : Hp} {K K' : Int → Hp → Prop} {X X' : Chain → Hp → Prop} (H : F_text_cursor_number.call c least most h K X) (hk : ∀ r0 h', K r0 h' → K' r0 h') (hx : ∀ c h', X c h' → X' c h') : F_text_cursor_number.call c least most h K' X' :=
  CallH.mono H (fun v h' ⟨r0, e, k⟩ => ⟨r0, e, hk _ _ k⟩) hx

def F_term_parts_1.call (yield : Value) (free0 : Addr) (h : Hp) (K : Hp → Prop) (X : Chain → Hp → Prop) : Prop :=
  CallH Tryz.prog 115 #[yield, .pointer (some free0)] h (fun v h' => v = .tuple #[] ∧ K h') X
theorem F_term_parts_1.mono {yield : Value} {free0 : Addr} {h : Hp} {K K' : Hp → Prop} {X X' : Chain → Hp → Prop} (H : F_term_parts_1.call yield free0 h K X) (hk : ∀  h', K  h' → K'  h') (hx : ∀ c h', X c h' → X' c h') : F_term_parts_1.call yield free0 h K' X' :=
  CallH.mono H (fun v h' ⟨e, k⟩ => ⟨e, hk  _ k⟩) hx

def F_tenureref05_hex.call (c : Int) (h : Hp) (K : Int → Hp → Prop) (X : Chain → Hp → Prop) : Prop :=
  CallH Tryz.prog 121 #[.int .u8 c] h (fun v h' => ∃ (r0 : Int), v = .int .i64 r0 ∧ K r0 h') X
theorem F_tenureref05_hex.mono {c : Int} {h : Hp} {K K' : Int → Hp → Prop} {X X' : Chain → Hp → Prop} (H : F_tenureref05_hex.call c h K X) (hk : ∀ r0 h', K r0 h' → K' r0 h') (hx : ∀ c h', X c h' → X' c h') : F_tenureref05_hex.call c h K' X' :=
  CallH.mono H (fun v h' ⟨r0, e, k⟩ => ⟨r0, e, hk _ _ k⟩) hx

def F_tenureref02_MakeList.call (l : Sl) (a1_tail : V_api_Term) (h : Hp) (K : V_api_Term → Hp → Prop) (X : Chain → Hp → Prop) : Prop :=
  CallH Tryz.prog 122 #[sl l, .agg #[.int .i64 a1_tail.Kind, .int .i64 a1_tail.N, .string (ba a1_tail.S), sl a1_tail.L]] h (fun v h' => ∃ (r0 : V_api_Term), v = .agg r0.cells.toArray ∧ K r0 h') X
theorem F_tenureref02_MakeList.mono {l : Sl} {a1_tail : V_api_Term} {h : Hp} {K K' : V_api_Term → Hp → Prop} {X X' : Chain → Hp → Prop} (H : F_tenureref02_MakeList.call l a1_tail h K X) (hk : ∀ r0 h', K r0 h' → K' r0 h') (hx : ∀ c h', X c h' → X' c h') : F_tenureref02_MakeList.call l a1_tail h K' X' :=
  CallH.mono H (fun v h' ⟨r0, e, k⟩ => ⟨r0, e, hk _ _ k⟩) hx

def F_tenureref02_own.call (t : V_api_Term) (h : Hp) (K : Bool → Hp → Prop) (X : Chain → Hp → Prop) : Prop :=
  CallH Tryz.prog 123 #[.agg #[.int .i64 t.Kind, .int .i64 t.N, .string (ba t.S), sl t.L]] h (fun v h' => ∃ (r0 : Bool), v = .bool r0 ∧ K r0 h') X
theorem F_tenureref02_own.mono {t : V_api_Term} {h : Hp} {K K' : Bool → Hp → Prop} {X X' : Chain → Hp → Prop} (H : F_tenureref02_own.call t h K X) (hk : ∀ r0 h', K r0 h' → K' r0 h') (hx : ∀ c h', X c h' → X' c h') : F_tenureref02_own.call t h K' X' :=
  CallH.mono H (fun v h' ⟨r0, e, k⟩ => ⟨r0, e, hk _ _ k⟩) hx

def F_strings_Contains.call (s : Str) (substr : Str) (h : Hp) (K : Bool → Hp → Prop) (X : Chain → Hp → Prop) : Prop :=
  CallH Tryz.prog 125 #[.string (ba s), .string (ba substr)] h (fun v h' => ∃ (r0 : Bool), v = .bool r0 ∧ K r0 h') X
theorem F_strings_Contains.mono {s : Str} {substr : Str} {h : Hp} {K K' : Bool → Hp → Prop} {X X' : Chain → Hp → Prop} (H : F_strings_Contains.call s substr h K X) (hk : ∀ r0 h', K r0 h' → K' r0 h') (hx : ∀ c h', X c h' → X' c h') : F_strings_Contains.call s substr h K' X' :=
  CallH.mono H (fun v h' ⟨r0, e, k⟩ => ⟨r0, e, hk _ _ k⟩) hx

def F_slices_ContainsFunc_byte_byte.call (s : Sl) (f : Value) (h : Hp) (K : Bool → Hp → Prop) (X : Chain → Hp → Prop) : Prop :=
  CallH Tryz.prog 126 #[sl s, f] h (fun v h' => ∃ (r0 : Bool), v = .bool r0 ∧ K r0 h') X
theorem F_slices_ContainsFunc_byte_byte.mono {s : Sl} {f : Value} {h : Hp} {K K' : Bool → Hp → Prop} {X X' : Chain → Hp → Prop} (H : F_slices_ContainsFunc_byte_byte.call s f h K X) (hk : ∀ r0 h', K r0 h' → K' r0 h') (hx : ∀ c h', X c h' → X' c h') : F_slices_ContainsFunc_byte_byte.call s f h K' X' :=
  CallH.mono H (fun v h' ⟨r0, e, k⟩ => ⟨r0, e, hk _ _ k⟩) hx

def F_text_Plain_1.call (c : Int) (h : Hp) (K : Bool → Hp → Prop) (X : Chain → Hp → Prop) : Prop :=
  CallH Tryz.prog 127 #[.int .u8 c] h (fun v h' => ∃ (r0 : Bool), v = .bool r0 ∧ K r0 h') X
theorem F_text_Plain_1.mono {c : Int} {h : Hp} {K K' : Bool → Hp → Prop} {X X' : Chain → Hp → Prop} (H : F_text_Plain_1.call c h K X) (hk : ∀ r0 h', K r0 h' → K' r0 h') (hx : ∀ c h', X c h' → X' c h') : F_text_Plain_1.call c h K' X' :=
  CallH.mono H (fun v h' ⟨r0, e, k⟩ => ⟨r0, e, hk _ _ k⟩) hx

def F_text_letter.call (c : Int) (h : Hp) (K : Bool → Hp → Prop) (X : Chain → Hp → Prop) : Prop :=
  CallH Tryz.prog 128 #[.int .u8 c] h (fun v h' => ∃ (r0 : Bool), v = .bool r0 ∧ K r0 h') X
theorem F_text_letter.mono {c : Int} {h : Hp} {K K' : Bool → Hp → Prop} {X X' : Chain → Hp → Prop} (H : F_text_letter.call c h K X) (hk : ∀ r0 h', K r0 h' → K' r0 h') (hx : ∀ c h', X c h' → X' c h') : F_text_letter.call c h K' X' :=
  CallH.mono H (fun v h' ⟨r0, e, k⟩ => ⟨r0, e, hk _ _ k⟩) hx

def F_slices_Backward_api_Term_api_Term_1.call (yield : Value) (free0 : Addr) (h : Hp) (K : Hp → Prop) (X : Chain → Hp → Prop) : Prop :=
  CallH Tryz.prog 129 #[yield, .pointer (some free0)] h (fun v h' => v = .tuple #[] ∧ K h') X
theorem F_slices_Backward_api_Term_api_Term_1.mono {yield : Value} {free0 : Addr} {h : Hp} {K K' : Hp → Prop} {X X' : Chain → Hp → Prop} (H : F_slices_Backward_api_Term_api_Term_1.call yield free0 h K X) (hk : ∀  h', K  h' → K'  h') (hx : ∀ c h', X c h' → X' c h') : F_slices_Backward_api_Term_api_Term_1.call yield free0 h K' X' :=
  CallH.mono H (fun v h' ⟨e, k⟩ => ⟨e, hk  _ k⟩) hx

def F_tenureref05_word.call (s : Str) (h : Hp) (K : Bool → Hp → Prop) (X : Chain → Hp → Prop) : Prop :=
  CallH Tryz.prog 134 #[.string (ba s)] h (fun v h' => ∃ (r0 : Bool), v = .bool r0 ∧ K r0 h') X
theorem F_tenureref05_word.mono {s : Str} {h : Hp} {K K' : Bool → Hp → Prop} {X X' : Chain → Hp → Prop} (H : F_tenureref05_word.call s h K X) (hk : ∀ r0 h', K r0 h' → K' r0 h') (hx : ∀ c h', X c h' → X' c h') : F_tenureref05_word.call s h K' X' :=
  CallH.mono H (fun v h' ⟨r0, e, k⟩ => ⟨r0, e, hk _ _ k⟩) hx

def F_strings_HasPrefix.call (s : Str) (a1_prefix : Str) (h : Hp) (K : Bool → Hp → Prop) (X : Chain → Hp → Prop) : Prop :=
  CallH Tryz.prog 137 #[.string (ba s), .string (ba a1_prefix)] h (fun v h' => ∃ (r0 : Bool), v = .bool r0 ∧ K r0 h') X
theorem F_strings_HasPrefix.mono {s : Str} {a1_prefix : Str} {h : Hp} {K K' : Bool → Hp → Prop} {X X' : Chain → Hp → Prop} (H : F_strings_HasPrefix.call s a1_prefix h K X) (hk : ∀ r0 h', K r0 h' → K' r0 h') (hx : ∀ c h', X c h' → X' c h') : F_strings_HasPrefix.call s a1_prefix h K' X' :=
  CallH.mono H (fun v h' ⟨r0, e, k⟩ => ⟨r0, e, hk _ _ k⟩) hx

def F_text_cursor_must.call (c : Option Addr) (s : Str) (h : Hp) (K : Hp → Prop) (X : Chain → Hp → Prop) : Prop :=
  CallH Tryz.prog 138 #[.pointer c, .string (ba s)] h (fun v h' => v = .tuple #[] ∧ K h') X
theorem F_text_cursor_must.mono {c : Option Addr} {s : Str} {h : Hp} {K K' : Hp → Prop} {X X' : Chain → Hp → Prop} (H : F_text_cursor_must.call c s h K X) (hk : ∀  h', K  h' → K'  h') (hx : ∀ c h', X c h' → X' c h') : F_text_cursor_must.call c s h K' X' :=
  CallH.mono H (fun v h' ⟨e, k⟩ => ⟨e, hk  _ k⟩) hx

def F_text_cursor_byteOf.call (c : Option Addr) (h : Hp) (K : Int → Bool → Hp → Prop) (X : Chain → Hp → Prop) : Prop :=
  CallH Tryz.prog 139 #[.pointer c] h (fun v h' => ∃ (r0 : Int) (r1 : Bool), v = .tuple #[.int .u8 r0, .bool r1] ∧ K r0 r1 h') X
theorem F_text_cursor_byteOf.mono {c : Option Addr} {h : Hp} {K K' : Int → Bool → Hp → Prop} {X X' : Chain → Hp → Prop} (H : F_text_cursor_byteOf.call c h K X) (hk : ∀ r0 r1 h', K r0 r1 h' → K' r0 r1 h') (hx : ∀ c h', X c h' → X' c h') : F_text_cursor_byteOf.call c h K' X' :=
  CallH.mono H (fun v h' ⟨r0, r1, e, k⟩ => ⟨r0, r1, e, hk _ _ _ k⟩) hx

def F_tenureref02_numbered.call (n : Int) (h : Hp) (K : Bool → Hp → Prop) (X : Chain → Hp → Prop) : Prop :=
  CallH Tryz.prog 143 #[.int .i64 n] h (fun v h' => ∃ (r0 : Bool), v = .bool r0 ∧ K r0 h') X
theorem F_tenureref02_numbered.mono {n : Int} {h : Hp} {K K' : Bool → Hp → Prop} {X X' : Chain → Hp → Prop} (H : F_tenureref02_numbered.call n h K X) (hk : ∀ r0 h', K r0 h' → K' r0 h') (hx : ∀ c h', X c h' → X' c h') : F_tenureref02_numbered.call n h K' X' :=
  CallH.mono H (fun v h' ⟨r0, e, k⟩ => ⟨r0, e, hk _ _ k⟩) hx

def F_slices_IndexFunc_byte_byte.call (s : Sl) (f : Value) (h : Hp) (K : Int → Hp → Prop) (X : Chain → Hp → Prop) : Prop :=
  CallH Tryz.prog 144 #[sl s, f] h (fun v h' => ∃ (r0 : Int), v = .int .i64 r0 ∧ K r0 h') X
theorem F_slices_IndexFunc_byte_byte.mono {s : Sl} {f : Value} {h : Hp} {K K' : Int → Hp → Prop} {X X' : Chain → Hp → Prop} (H : F_slices_IndexFunc_byte_byte.call s f h K X) (hk : ∀ r0 h', K r0 h' → K' r0 h') (hx : ∀ c h', X c h' → X' c h') : F_slices_IndexFunc_byte_byte.call s f h K' X' :=
  CallH.mono H (fun v h' ⟨r0, e, k⟩ => ⟨r0, e, hk _ _ k⟩) hx

def F_strings_IndexByte.call (s : Str) (c : Int) (h : Hp) (K : Int → Hp → Prop) (X : Chain → Hp → Prop) : Prop :=
  CallH Tryz.prog 151 #[.string (ba s), .int .u8 c] h (fun v h' => ∃ (r0 : Int), v = .int .i64 r0 ∧ K r0 h') X
theorem F_strings_IndexByte.mono {s : Str} {c : Int} {h : Hp} {K K' : Int → Hp → Prop} {X X' : Chain → Hp → Prop} (H : F_strings_IndexByte.call s c h K X) (hk : ∀ r0 h', K r0 h' → K' r0 h') (hx : ∀ c h', X c h' → X' c h') : F_strings_IndexByte.call s c h K' X' :=
  CallH.mono H (fun v h' ⟨r0, e, k⟩ => ⟨r0, e, hk _ _ k⟩) hx

/-- The cells of the zero term. -/
abbrev zT : List Value := [.int .i64 0, .int .i64 0, .string (ba ([] : Str)), sl (⟨none, 0, 0⟩ : Sl)]
section
variable {P : Program} {r : Option Nat} {B : Bod} {w0 : World} {ds : List Deferred} {N : Dest} {D : List (Nat × Dest)} {n : Nat} {E : Env} {h : Hp} {ops : Array Oper} {i : Nat}
theorem JC.sr {y : Code} {id : Nat} (hh : JO P B w0 ds D n ops (fun a w => y.wpIn (wd r) 0 P (QD B N D) a w) 0 ops.size E h) (hd : noDef ops = true := by kernel_rfl) : JC P r B w0 ds N D n (.seq (.region id ops false) y) E h := JC.seq (JC.region hh hd)
theorem JO.nx {y : Code} {D' : List (Nat × Dest)} (hh : JC P r B w0 ds N D' n y E h) : JO P B w0 ds D n ops (fun a w => y.wpIn (wd r) 0 P (QD B N D') a w) i i E h := JO.end_ (JC.next hh)
theorem JO.nsr {y : Code} {D' : List (Nat × Dest)} {id : Nat} {ops' : Array Oper} (hh : JO P B w0 ds D' n ops' (fun a w => y.wpIn (wd r) 0 P (QD B N D') a w) 0 ops'.size E h) (hd : noDef ops' = true := by kernel_rfl) : JO P B w0 ds D n ops (fun a w => (Code.seq (.region id ops' false) y).wpIn (wd r) 0 P (QD B N D') a w) i i E h := JO.nx (JC.sr hh hd)
theorem OpOk.cm {f : FuncId} {args : Array Value} {o : Oper} {k k0 : Value → Hp → Prop} {X : Chain → Hp → Prop} (hc : CallH P f args h k0 X) (hm : ∀ v h', k0 v h' → k v h') (hk : known E o = true := by kernel_rfl) (hr : ∀ w, (execOp (ev E) o).run P w = .ok (.enter f args) w := by intro _; kernel_rfl) (hp : PanOk B w0 ds n E X := by first | exact panOk_s | exact panOk_no) :
    OpOk P n w0 ds (QD B N D) o E h k := OpOk.c (CallH.mono hc hm fun _ _ hx => hx) hk hr hp
end
end Go.Proofs.YtefbonjcpdjhcaaGreatDoor.X
