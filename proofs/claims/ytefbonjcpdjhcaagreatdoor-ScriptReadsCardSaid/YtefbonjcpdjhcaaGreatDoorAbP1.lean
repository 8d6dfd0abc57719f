/- A part of the proof: The card of ScriptReads: for every text that the form allows, the law returns true and leaves its argument as it was; the listed package-level variables of Go's library hold what their initialisers lay. -/
import Derived.Test.YtefbonjcpdjhcaaGreatDoorAbP0
/- Plain laws: the grammar without fuel; the grammar of the document's reader. -/
set_option linter.unusedVariables false
set_option maxRecDepth 100000
namespace Go.Proofs.YtefbonjcpdjhcaaGreatDoor.X
open Go Go.RowKit

/-! ### The grammar, with any bound on how many -/
def gAllW (q : Nat → Bool) (T : PT) (M : PL) (e : Str) : PL := fun r =>
  if e.isPrefixOf r then some ([], r.drop e.length)
  else match T r with
    | none => none
    | some (t, r1) => match M r1 with
      | none => none
      | some (ts, r2) => if e.isPrefixOf r2 ∧ q (t :: ts).length = true then some (t :: ts, r2.drop e.length) else none
def gFunW (q : Nat → Bool) (M : PL) : PT := fun r =>
  match pNum 0 1073741824 r with
  | none => none
  | some (n, r1) => match M r1 with
    | none => none
    | some (ts, r2) => if ([62] : Str).isPrefixOf r2 ∧ q ts.length = true then some (.mk 5 n [] ts, r2.drop 1) else none
def gTermW (q : Nat → Bool) (T : PT) (M : PL) : PT := fun r =>
  if ([123] : Str).isPrefixOf r then (gAllW q T M [125] (r.drop 1)).map fun q => (.mk 7 0 [] q.1, q.2)
  else if ([91] : Str).isPrefixOf r then pListW T M (r.drop 1)
  else if ([39] : Str).isPrefixOf r then pQuoted (r.drop 1)
  else if ([35, 82, 101, 102, 60] : Str).isPrefixOf r then pNamed 3 [62] (r.drop 5)
  else if ([35, 84, 105, 100, 60] : Str).isPrefixOf r then pNamed 4 [62] (r.drop 5)
  else if ([60, 48, 46] : Str).isPrefixOf r then pNamed 6 [46, 48, 62] (r.drop 3)
  else if ([35, 70, 117, 110, 60] : Str).isPrefixOf r then gFunW q M (r.drop 5)
  else if isSmall r then pPlain r
  else (pNum (-576460752303423488) 576460752303423487 r).map fun q => (.mk 1 q.1 [] [], q.2)
mutual
def gTerm (q : Nat → Bool) : Nat → PT
  | 0 => fun _ => none
  | n + 1 => gTermW q (gTerm q n) (gMore q n)
def gMore (q : Nat → Bool) : Nat → PL
  | 0 => fun _ => none
  | n + 1 => pMoreW (gTerm q n) (gMore q n)
end
def q64 : Nat → Bool := fun n => decide (n ≤ 64)
def qAny : Nat → Bool := fun _ => true
theorem ite2 {c : Prop} [Decidable c] {α : Type} {a b a' b' : α} (h1 : c → a = a') (h2 : ¬ c → b = b') : (if c then a else b) = (if c then a' else b') := by
  by_cases h : c
  · rw [if_pos h, if_pos h, h1 h]
  · rw [if_neg h, if_neg h, h2 h]
theorem p_eq_g : ∀ n, pTerm n = gTerm q64 n ∧ pMore n = gMore q64 n
  | 0 => ⟨rfl, rfl⟩
  | n + 1 => by
    obtain ⟨h1, h2⟩ := p_eq_g n
    constructor
    · funext r
      simp only [pTerm, gTerm, h1, h2]
      have e1 : ∀ T M e r, pAllW T M e r = gAllW q64 T M e r := fun T M e r => by
        unfold pAllW gAllW
        refine ite2 (fun _ => rfl) fun _ => ?_
        cases T r with
        | none => rfl
        | some x =>
          obtain ⟨t, r1⟩ := x
          simp only
          cases M r1 with
          | none => rfl
          | some y => simp only [q64, decide_eq_true_eq]
      have e2 : ∀ M r, pFunW M r = gFunW q64 M r := fun M r => by
        unfold pFunW gFunW
        cases pNum 0 1073741824 r with
        | none => rfl
        | some x =>
          obtain ⟨t, r1⟩ := x
          simp only
          cases M r1 with
          | none => rfl
          | some y => simp only [q64, decide_eq_true_eq]
      simp only [pTermW, gTermW, e1, e2]
    · simp only [pMore, gMore, h1, h2]
/-! ### Lengths -/
theorem gAllW_len {q : Nat → Bool} {T : PT} {M : PL} (hT : TLen T) (hM : MLen M) {e r r1 : Str} {l : List Tm} (h : gAllW q T M e r = some (l, r1)) : r1.length ≤ r.length := by
  unfold gAllW at h
  split at h
  · injection h with h; injection h with _ h; subst h; exact drop_le _ _
  · split at h
    · cases h
    · rename_i t r2 ht
      split at h
      · cases h
      · rename_i ts r3 hm
        split at h
        · injection h with h; injection h with _ h; subst h
          have h1 := hT _ _ _ ht
          have h2 := hM _ _ _ hm
          have h3 := drop_le r3 e.length
          omega
        · cases h
theorem gFunW_len {q : Nat → Bool} {M : PL} (hM : MLen M) {r r1 : Str} {t : Tm} (h : gFunW q M r = some (t, r1)) : r1.length ≤ r.length := by
  unfold gFunW at h
  split at h
  · cases h
  · rename_i n r2 hn
    split at h
    · cases h
    · rename_i ts r3 hm
      split at h
      · injection h with h; injection h with _ h; subst h
        have h1 := pNum_len hn
        have h2 := hM _ _ _ hm
        have h3 := drop_le r3 1
        omega
      · cases h
theorem gTermW_len {q : Nat → Bool} {T : PT} {M : PL} (hT : TLen T) (hM : MLen M) : TLen (gTermW q T M) := by
  intro r t r1 h
  unfold gTermW at h
  split at h
  · rename_i hp
    have hd := drop_lt hp (by simp)
    cases hq : gAllW q T M [125] (r.drop 1) with
    | none => rw [hq] at h; cases h
    | some q =>
      rw [hq] at h
      injection h with h; injection h with _ h; subst h
      exact Nat.lt_of_le_of_lt (gAllW_len hT hM hq) hd
  · split at h
    · rename_i hp
      exact Nat.lt_of_le_of_lt (pListW_len hT hM h) (drop_lt hp (by simp))
    · split at h
      · rename_i hp
        exact Nat.lt_trans (pQuoted_len h) (drop_lt hp (by simp))
      · split at h
        · rename_i hp
          exact Nat.lt_of_le_of_lt (pNamed_len h) (drop_lt hp (by simp))
        · split at h
          · rename_i hp
            exact Nat.lt_of_le_of_lt (pNamed_len h) (drop_lt hp (by simp))
          · split at h
            · rename_i hp
              exact Nat.lt_of_le_of_lt (pNamed_len h) (drop_lt hp (by simp))
            · split at h
              · rename_i hp
                exact Nat.lt_of_le_of_lt (gFunW_len hM h) (drop_lt hp (by simp))
              · split at h
                · exact pPlain_len h
                · cases hq : pNum (-576460752303423488) 576460752303423487 r with
                  | none => rw [hq] at h; cases h
                  | some q =>
                    rw [hq] at h
                    injection h with h; injection h with _ h; subst h
                    exact pNum_len hq
theorem g_len (q : Nat → Bool) : ∀ n, TLen (gTerm q n) ∧ MLen (gMore q n)
  | 0 => ⟨fun _ _ _ h => (by cases h), fun _ _ _ h => (by cases h)⟩
  | n + 1 => ⟨gTermW_len (g_len q n).1 (g_len q n).2, pMoreW_len (g_len q n).1 (g_len q n).2⟩

/-! ### What is shorter decides -/
def AgT (k : Nat) (T T' : PT) : Prop := ∀ r, r.length < k → T r = T' r
def AgM (k : Nat) (M M' : PL) : Prop := ∀ r, r.length < k → M r = M' r
section
variable {q : Nat → Bool} {T T' : PT} {M M' : PL} {k : Nat} {r e : Str}
theorem pMoreW_congr (hl : TLen T) (hT : AgT r.length T T') (hM : AgM r.length M M') : pMoreW T M r = pMoreW T' M' r := by
  unfold pMoreW
  refine ite2 (fun hp => ?_) fun _ => rfl
  have hd : (r.drop 1).length < r.length := drop_lt hp (by simp)
  rw [← hT _ hd]
  cases ht : T (r.drop 1) with
  | none => rfl
  | some x =>
    obtain ⟨t, r1⟩ := x
    have := hl _ _ _ ht
    simp only
    rw [hM r1 (by omega)]
theorem gAllW_congr (hr : r.length < k) (hl : TLen T) (hT : AgT k T T') (hM : AgM k M M') : gAllW q T M e r = gAllW q T' M' e r := by
  unfold gAllW
  rw [← hT r hr]
  cases ht : T r with
  | none => rfl
  | some x =>
    obtain ⟨t, r1⟩ := x
    have := hl _ _ _ ht
    simp only
    rw [hM r1 (by omega)]
theorem pTailW_congr (hr : r.length < k) (hT : AgT k T T') : pTailW T r = pTailW T' r := by
  unfold pTailW
  rw [hT (r.drop 1) (by have := drop_le r 1; omega)]
theorem pListW_congr (hr : r.length < k) (hl : TLen T) (hm : MLen M) (hT : AgT k T T') (hM : AgM k M M') : pListW T M r = pListW T' M' r := by
  unfold pListW
  rw [← hT r hr]
  cases ht : T r with
  | none => rfl
  | some x =>
    obtain ⟨t, r1⟩ := x
    have h1 := hl _ _ _ ht
    simp only
    rw [← hM r1 (by omega)]
    cases hx : M r1 with
    | none => rfl
    | some y =>
      obtain ⟨ts, r2⟩ := y
      have h2 := hm _ _ _ hx
      simp only
      rw [pTailW_congr (r := r2) (k := k) (by omega) hT]
theorem gFunW_congr (hr : r.length < k) (hM : AgM k M M') : gFunW q M r = gFunW q M' r := by
  unfold gFunW
  cases hn : pNum 0 1073741824 r with
  | none => rfl
  | some x =>
    obtain ⟨n, r1⟩ := x
    have := pNum_len hn
    simp only
    rw [hM r1 (by omega)]
theorem gTermW_congr (hl : TLen T) (hm : MLen M) (hT : AgT r.length T T') (hM : AgM r.length M M') : gTermW q T M r = gTermW q T' M' r := by
  unfold gTermW
  refine ite2 (fun hp => ?_) fun _ => ite2 (fun hp => ?_) fun _ => ite2 (fun _ => rfl) fun _ => ite2 (fun _ => rfl) fun _ => ite2 (fun _ => rfl) fun _ => ite2 (fun _ => rfl) fun _ => ite2 (fun hp => ?_) fun _ => rfl
  · have hd : (r.drop 1).length < r.length := drop_lt hp (by simp)
    rw [gAllW_congr hd hl hT hM]
  · have hd : (r.drop 1).length < r.length := drop_lt hp (by simp)
    exact pListW_congr hd hl hm hT hM
  · have hd : (r.drop 5).length < r.length := drop_lt hp (by simp)
    exact gFunW_congr hd hM
end
theorem g_stable (q : Nat → Bool) : ∀ (k n m : Nat) (r : Str), r.length ≤ k → k < n → k < m → gTerm q n r = gTerm q m r ∧ gMore q n r = gMore q m r := by
  intro k
  induction k using Nat.strongRecOn with
  | _ k ih =>
    intro n m r hr hn hm
    obtain ⟨n, rfl⟩ : ∃ n', n = n' + 1 := ⟨n - 1, by omega⟩
    obtain ⟨m, rfl⟩ : ∃ m', m = m' + 1 := ⟨m - 1, by omega⟩
    have hT : AgT r.length (gTerm q n) (gTerm q m) := fun x hx => (ih x.length (by omega) n m x (Nat.le_refl _) (by omega) (by omega)).1
    have hM : AgM r.length (gMore q n) (gMore q m) := fun x hx => (ih x.length (by omega) n m x (Nat.le_refl _) (by omega) (by omega)).2
    exact ⟨gTermW_congr (g_len q n).1 (g_len q n).2 hT hM, pMoreW_congr (g_len q n).1 hT hM⟩

/-- The grammar. -/
def GT (q : Nat → Bool) : PT := fun r => gTerm q (r.length + 1) r
def GM (q : Nat → Bool) : PL := fun r => gMore q (r.length + 1) r
theorem gTerm_eq {q : Nat → Bool} {n : Nat} {r : Str} (h : r.length < n) : gTerm q n r = GT q r := (g_stable q r.length n (r.length + 1) r (Nat.le_refl _) h (by omega)).1
theorem gMore_eq {q : Nat → Bool} {n : Nat} {r : Str} (h : r.length < n) : gMore q n r = GM q r := (g_stable q r.length n (r.length + 1) r (Nat.le_refl _) h (by omega)).2
theorem GT_eq (q : Nat → Bool) (r : Str) : GT q r = gTermW q (GT q) (GM q) r :=
  gTermW_congr (g_len q r.length).1 (g_len q r.length).2 (fun x hx => gTerm_eq hx) (fun x hx => gMore_eq hx)
theorem GM_eq (q : Nat → Bool) (r : Str) : GM q r = pMoreW (GT q) (GM q) r :=
  pMoreW_congr (g_len q r.length).1 (fun x hx => gTerm_eq hx) (fun x hx => gMore_eq hx)
theorem GT_len (q : Nat → Bool) : TLen (GT q) := fun r t r1 h => (g_len q _).1 r t r1 h
theorem GM_len (q : Nat → Bool) : MLen (GM q) := fun r t r1 h => (g_len q _).2 r t r1 h
theorem pRead_eq (s : Str) : pRead s = match GT q64 s with
    | none => none
    | some (t, r) => if r = [] then some t else none := by
  unfold pRead
  rw [(p_eq_g _).1, gTerm_eq (by omega)]
  all_goals (cases GT q64 s <;> rfl)
end Go.Proofs.YtefbonjcpdjhcaaGreatDoor.X

/- Stage 2: the program's term.Check, its small parts. -/
set_option linter.unusedVariables false
set_option maxRecDepth 100000
namespace Go.Proofs.YtefbonjcpdjhcaaGreatDoor.X
open Go Go.RowKit

/-- May a term be, but for its parts? -/
def soundB (k n : Int) (s : Str) (l : Int) : Bool :=
  if k = 1 then decide (-576460752303423488 ≤ n) && decide (n ≤ 576460752303423487) && (s == []) && (l == 0)
  else if k = 2 then (n == 0) && decide (s.length ≤ 64) && (l == 0)
  else if k = 3 ∨ k = 4 ∨ k = 6 then decide (0 ≤ n) && decide (n ≤ 1073741824) && (s == []) && (l == 0)
  else if k = 5 then decide (0 ≤ n) && decide (n ≤ 1073741824) && (s == []) && decide (l ≤ 64)
  else if k = 7 then (n == 0) && (s == []) && decide (l ≤ 64)
  else if k = 8 then (n == 0) && (s == []) && (l == 0)
  else if k = 9 then (n == 0) && (s == []) && (l == 2)
  else false
theorem F_term_own.ok (t : TV) (h : Hp) (X : Chain → Hp → Prop) : F_term_own.call t h (fun r h' => r = (if t.Kind = 7 ∨ t.Kind = 5 then 2 else 1) ∧ Fr [] h h') X := by
  refine F_term_own.sound ?_
  unfold F_term_own.body
  refine ⟨fun hc p1 h2 hn he => ⟨?_, (Fr.refl [] h).ev he (one_ge hn.1)⟩, fun hc p1 h2 hn he => ⟨?_, (Fr.refl [] h).ev he (one_ge hn.1)⟩⟩
  · rw [if_pos (by simpa using hc)]
  · rw [if_neg (by simpa using hc)]
theorem F_term_sound.ok (t : TV) (h : Hp) (X : Chain → Hp → Prop) : F_term_sound.call t h (fun r h' => r = soundB t.Kind t.N t.S t.L.len ∧ Fr [] h h') X := by
  refine F_term_sound.sound ?_
  unfold F_term_sound.body
  rintro x3 rfl
  have ev : ∀ {p1 : Nat} {h2 : Hp}, New p1 h h2 → Ev [p1] h h2 → Fr [] h h2 := fun hn he => (Fr.refl [] h).ev he (one_ge hn.1)
  refine ⟨fun h1 p1 h2 hn he => ⟨?_, ev hn he⟩, fun h1 => ⟨fun h2 p1 h2' hn he => ⟨?_, ev hn he⟩, fun h2 p1 h2' hn he => ?_⟩⟩
  · have e1 : t.Kind = 1 := by simpa using h1
    unfold soundB; rw [if_pos e1]; simp [cmpS, ge_iff_le]
  · have e1 : ¬ t.Kind = 1 := by simpa using h1
    have e2 : t.Kind = 2 := by simpa using h2
    unfold soundB; rw [if_neg e1, if_pos e2]
    have : decide ((t.S.length : Int) ≤ 64) = decide (t.S.length ≤ 64) := decide_eq_decide.2 (by omega)
    rw [this]
  · have e1 : ¬ t.Kind = 1 := by simpa using h1
    have e2 : ¬ t.Kind = 2 := by simpa using h2
    have f2 := ev hn he
    refine ⟨fun y h11 => h11 = h2' ∧ y = decide (t.Kind = 3 ∨ t.Kind = 4 ∨ t.Kind = 6 ∨ t.Kind = 5), ⟨fun h3 => ⟨rfl, ?_⟩, fun h3 => ⟨fun h4 => ⟨rfl, ?_⟩, fun h4 => ⟨fun h6 => ⟨rfl, ?_⟩, fun h6 => ⟨rfl, ?_⟩⟩⟩⟩, ?_⟩
    · have : t.Kind = 3 := by simpa using h3
      simp [this]
    · have : t.Kind = 4 := by simpa using h4
      simp [this]
    · have : t.Kind = 6 := by simpa using h6
      simp [this]
    · have e3 : ¬ t.Kind = 3 := by simpa using h3
      have e4 : ¬ t.Kind = 4 := by simpa using h4
      have e6 : ¬ t.Kind = 6 := by simpa using h6
      rw [Bool.eq_iff_iff]; simp [e3, e4, e6]
    · rintro y h11 ⟨rfl, rfl⟩
      refine ⟨fun hy => ⟨?_, f2⟩, fun hy => ?_⟩
      · have hy := of_decide_eq_true hy
        unfold soundB
        rw [if_neg e1, if_neg e2]
        by_cases h5 : t.Kind = 5
        · rw [if_neg (by omega), if_pos h5]
          have : (((t.L.len : Int) == 0) || ((t.Kind == 5) && decide ((t.L.len : Int) ≤ 64))) = decide ((t.L.len : Int) ≤ 64) := by
            rw [Bool.eq_iff_iff]; simp [h5]; omega
          rw [this]; simp [cmpS, ge_iff_le]
        · rw [if_pos (by omega)]
          have : (((t.L.len : Int) == 0) || ((t.Kind == 5) && decide ((t.L.len : Int) ≤ 64))) = ((t.L.len : Int) == 0) := by
            rw [show (t.Kind == 5) = false from by simpa using h5]; simp
          rw [this]; simp [cmpS, ge_iff_le]
      · have hy := of_decide_eq_false hy
        unfold soundB
        rw [if_neg e1, if_neg e2, if_neg (by omega), if_neg (by omega)]
        refine ⟨fun h7 => ⟨?_, f2⟩, fun h7 => ⟨fun h8 => ⟨?_, f2⟩, fun h8 => ⟨fun h9 => ⟨?_, f2⟩, fun h9 => ⟨?_, f2⟩⟩⟩⟩
        · rw [if_pos (by simpa using h7)]; simp [cmpS]
        · rw [if_neg (by simpa using h7), if_pos (by simpa using h8)]; simp [cmpS]
        · rw [if_neg (by simpa using h7), if_neg (by simpa using h8), if_pos (by simpa using h9)]; simp [cmpS]
        · rw [if_neg (by simpa using h7), if_neg (by simpa using h8), if_neg (by simpa using h9)]
end Go.Proofs.YtefbonjcpdjhcaaGreatDoor.X

/- Stage 2: going through all parts of a term. -/
set_option linter.unusedVariables false
set_option maxRecDepth 100000
namespace Go.Proofs.YtefbonjcpdjhcaaGreatDoor.X
open Go Go.RowKit

mutual
/-- A term and all its parts, each ahead of its own. -/
def pre : Tm → List Tm
  | .mk k n s l => .mk k n s l :: preL l
def preL : List Tm → List Tm
  | [] => []
  | t :: ts => pre t ++ preL ts
end
/-- The row of a slice, cut at its end. -/
theorem SlG.cut {h : Hp} {x : Sl} {vs : List TV} {v : TV} {b : Nat} {O : List Nat} (g : SlG tc 4 24 h x (vs ++ [v]) (b :: O)) : SlG tc 4 24 h (x.cut 4 0 (((x.len : Int)) - 1)) vs (b :: O) := by
  obtain ⟨h1, h2, h3, rest, h4, h5⟩ := g
  have hl : x.len = vs.length + 1 := by rw [h1]; simp
  have e1 : (((x.len : Int)) - 1).toNat = vs.length := by omega
  refine ⟨?_, ?_, ?_, tc v ++ rest, ?_, ?_⟩
  · simp only [Sl.cut, e1]; simp
  · simp only [Sl.cut, e1]; simp; omega
  · simp only [Sl.cut, e1]
    rw [show ((0 : Int)).toNat = 0 from rfl, if_neg (by omega), h3]
    rfl
  · simp only [Sl.cut, e1, List.length_append, h4, tc_len]
    simp
    omega
  · rw [← List.append_assoc, ← cellsOf_one (c := tc) v, ← cellsOf_append]
    exact h5
theorem preL_append : ∀ (l m : List Tm), preL (l ++ m) = preL l ++ preL m
  | [], m => by simp [preL]
  | t :: l, m => by simp [preL, preL_append l m]
theorem pre_eq (t : Tm) : pre t = t :: preL t.l := by cases t; simp [pre, Tm.l]
/-- Blocks below L stay. -/
def Low (L : Nat) (g g' : Hp) : Prop := g.size ≤ g'.size ∧ ∀ b, b < L → g'[b]? = g[b]?
theorem Low.refl (L : Nat) (g : Hp) : Low L g g := ⟨Nat.le_refl _, fun _ _ => rfl⟩
theorem Low.trans {L : Nat} {g g1 g2 : Hp} (a : Low L g g1) (b : Low L g1 g2) : Low L g g2 := ⟨Nat.le_trans a.1 b.1, fun x hx => by rw [b.2 x hx, a.2 x hx]⟩
theorem Low.fr {L : Nat} {g g' : Hp} {M : List Nat} (f : Fr M g g') (hm : ∀ b ∈ M, L ≤ b) (hl : L ≤ g.size) : Low L g g' := ⟨f.1, fun b hb => f.2 b (by omega) fun h => by have := hm b h; omega⟩
/-- The marks that stand open. -/
def Marks (L : Nat) (g : Hp) (Ds : List Nat) : Prop := Ds.Nodup ∧ ∀ D ∈ Ds, L ≤ D ∧ g[D]? = some (.deferred (some []))
theorem Marks.fr {L : Nat} {g g' : Hp} {Ds M : List Nat} (m : Marks L g Ds) (f : Fr M g g') (hm : ∀ D ∈ Ds, D ∉ M) : Marks L g' Ds := ⟨m.1, fun D hD => ⟨(m.2 D hD).1, f.at_ (m.2 D hD).2 (hm D hD)⟩⟩
/-- They can be shut. -/
theorem Marks.shut {L : Nat} {K : Hp → Prop} : ∀ {Ds : List Nat} {g : Hp}, Marks L g Ds → L ≤ g.size → (∀ g', Low L g g' → K g') → ShutW Ds g K
  | [], g, _, _, hk => hk g (Low.refl _ _)
  | D :: Ds, g, m, hl, hk => by
    obtain ⟨hD1, hD2⟩ := m.2 D (List.mem_cons_self ..)
    refine ⟨hD2, fun h1 e => ?_⟩
    have f := Fr.lset e
    have hnd := List.nodup_cons.1 m.1
    have m' : Marks L h1 Ds := Marks.fr ⟨hnd.2, fun D' hD' => m.2 D' (List.mem_cons_of_mem _ hD')⟩ f (fun D' hD' hm => by simp at hm; subst hm; exact hnd.1 hD')
    have lo : Low L g h1 := Low.fr f (fun b hb => by simp at hb; omega) hl
    exact m'.shut (by have := lo.1; omega) fun g' hg' => hk g' (lo.trans hg')
end Go.Proofs.YtefbonjcpdjhcaaGreatDoor.X

/- Plain laws: the bound on tuples; how many parts a term has that is read. -/
set_option linter.unusedVariables false
set_option maxRecDepth 100000
namespace Go.Proofs.YtefbonjcpdjhcaaGreatDoor.X
open Go Go.RowKit

section
variable {q : Nat → Bool} {T T' : PT} {M M' : PL} {r r1 e : Str} {x : Tm} {l : List Tm}
theorem pMoreW_iff (he : ([44] : Str).isPrefixOf r = true) : pMoreW T M r = some (l, r1) ↔ ∃ t r2 us, T (r.drop 1) = some (t, r2) ∧ M r2 = some (us, r1) ∧ l = t :: us := by
  unfold pMoreW
  rw [if_pos he]
  constructor
  · intro h
    split at h
    · cases h
    · rename_i t r2 ht
      cases hm : M r2 with
      | none => rw [hm] at h; cases h
      | some y =>
        rw [hm] at h
        injection h with h; injection h with h1 h2
        refine ⟨t, r2, y.1, ht, ?_, h1.symm⟩
        rw [hm, ← h2]
  · rintro ⟨t, r2, us, h1, h2, rfl⟩
    simp only [h1, h2]; rfl
theorem gAllW_iff (he : ¬ e.isPrefixOf r = true) : gAllW q T M e r = some (l, r1) ↔ ∃ t r2 us r3, T r = some (t, r2) ∧ M r2 = some (us, r3) ∧ e.isPrefixOf r3 = true ∧ q (t :: us).length = true ∧ l = t :: us ∧ r1 = r3.drop e.length := by
  unfold gAllW
  rw [if_neg he]
  constructor
  · intro h
    split at h
    · cases h
    · rename_i t r2 ht
      split at h
      · cases h
      · rename_i ts r3 hm
        split at h
        · rename_i hc
          injection h with h; injection h with h1 h2
          exact ⟨t, r2, ts, r3, ht, hm, hc.1, hc.2, h1.symm, h2.symm⟩
        · cases h
  · rintro ⟨t, r2, us, r3, h1, h2, h3, h4, rfl, rfl⟩
    simp only [h1, h2]; rw [if_pos ⟨h3, h4⟩]
theorem pTailW_iff (he : ([124] : Str).isPrefixOf r = true) : pTailW T r = some (x, r1) ↔ T (r.drop 1) = some (x, r1) ∧ ¬ (x.kind = 9 ∨ x.kind = 8) := by
  unfold pTailW
  rw [if_pos he]
  constructor
  · intro h
    split at h
    · cases h
    · rename_i t r2 ht
      split at h
      · cases h
      · rename_i hk
        injection h with h; injection h with h1 h2; subst h1 h2
        exact ⟨ht, hk⟩
  · rintro ⟨h1, h2⟩
    simp only [h1]; rw [if_neg h2]
theorem pListW_iff (he : ¬ ([93] : Str).isPrefixOf r = true) : pListW T M r = some (x, r1) ↔ ∃ t r2 us r3 tl r4, T r = some (t, r2) ∧ M r2 = some (us, r3) ∧ pTailW T r3 = some (tl, r4) ∧ ([93] : Str).isPrefixOf r4 = true ∧ x = mkList (t :: us) tl ∧ r1 = r4.drop 1 := by
  unfold pListW
  rw [if_neg he]
  constructor
  · intro h
    split at h
    · cases h
    · rename_i t r2 ht
      split at h
      · cases h
      · rename_i ts r3 hm
        split at h
        · cases h
        · rename_i tl r4 htl
          split at h
          · rename_i hc
            injection h with h; injection h with h1 h2
            exact ⟨t, r2, ts, r3, tl, r4, ht, hm, htl, hc, h1.symm, h2.symm⟩
          · cases h
  · rintro ⟨t, r2, us, r3, tl, r4, h1, h2, h3, h4, rfl, rfl⟩
    simp only [h1, h2, h3]; rw [if_pos h4]
theorem gFunW_iff : gFunW q M r = some (x, r1) ↔ ∃ n r2 us r3, pNum 0 1073741824 r = some (n, r2) ∧ M r2 = some (us, r3) ∧ ([62] : Str).isPrefixOf r3 = true ∧ q us.length = true ∧ x = .mk 5 n [] us ∧ r1 = r3.drop 1 := by
  unfold gFunW
  constructor
  · intro h
    split at h
    · cases h
    · rename_i n r2 ht
      split at h
      · cases h
      · rename_i ts r3 hm
        split at h
        · rename_i hc
          injection h with h; injection h with h1 h2
          exact ⟨n, r2, ts, r3, ht, hm, hc.1, hc.2, h1.symm, h2.symm⟩
        · cases h
  · rintro ⟨n, r2, us, r3, h1, h2, h3, h4, rfl, rfl⟩
    simp only [h1, h2]; rw [if_pos ⟨h3, h4⟩]
theorem map_some {α β : Type} {f : α → β} {o : Option α} {y : β} : o.map f = some y ↔ ∃ x, o = some x ∧ f x = y := by
  cases o <;> simp
end

/-! ### The bound -/
mutual
def limT : Tm → Prop
  | .mk k n s l => ((k = 5 ∨ k = 7) → l.length ≤ 64) ∧ limL l
def limL : List Tm → Prop
  | [] => True
  | t :: ts => limT t ∧ limL ts
end
theorem limT_mkList : ∀ (l : List Tm) (t : Tm), limT (mkList l t) ↔ limL l ∧ limT t
  | [], t => by simp [mkList, limL]
  | x :: l, t => by
    have := limT_mkList l t
    simp only [mkList, limT, limL, this]
    simp only [show ¬ ((9 : Int) = 5 ∨ (9 : Int) = 7) by omega, false_implies, true_and, and_true, and_assoc]
theorem limT_leaf {k n : Int} {s : Str} : limT (.mk k n s []) := ⟨fun _ => by simp, trivial⟩
theorem pPlain_leaf {r r1 : Str} {t : Tm} (h : pPlain r = some (t, r1)) : ∃ s, t = .mk 2 0 s [] := by
  unfold pPlain at h
  split at h
  · injection h with h; injection h with h _; exact ⟨_, h.symm⟩
  · cases h
theorem pQuoted_leaf {r r1 : Str} {t : Tm} (h : pQuoted r = some (t, r1)) : ∃ s, t = .mk 2 0 s [] := by
  unfold pQuoted at h
  split at h
  · cases h
  · split at h
    · injection h with h; injection h with h _; exact ⟨_, h.symm⟩
    · cases h
theorem pNamed_leaf {k : Int} {e r r1 : Str} {t : Tm} (h : pNamed k e r = some (t, r1)) : ∃ n, t = .mk k n [] [] := by
  unfold pNamed at h
  split at h
  · cases h
  · split at h
    · injection h with h; injection h with h _; exact ⟨_, h.symm⟩
    · cases h
theorem iff_leaf {o : Option (Tm × Str)} {t : Tm} {r1 : Str} (h : o = some (t, r1) → limT t) : o = some (t, r1) ↔ o = some (t, r1) ∧ limT t := ⟨fun e => ⟨e, h e⟩, fun e => e.1⟩
theorem lim_law : ∀ (k : Nat) (r : Str), r.length ≤ k → (∀ t r1, GT q64 r = some (t, r1) ↔ GT qAny r = some (t, r1) ∧ limT t) ∧ (∀ l r1, GM q64 r = some (l, r1) ↔ GM qAny r = some (l, r1) ∧ limL l) := by
  intro k
  induction k using Nat.strongRecOn with
  | _ k ih =>
    intro r hr
    have hT : ∀ x : Str, x.length < r.length → ∀ t r1, GT q64 x = some (t, r1) ↔ GT qAny x = some (t, r1) ∧ limT t := fun x hx => (ih x.length (by omega) x (Nat.le_refl _)).1
    have hM : ∀ x : Str, x.length < r.length → ∀ l r1, GM q64 x = some (l, r1) ↔ GM qAny x = some (l, r1) ∧ limL l := fun x hx => (ih x.length (by omega) x (Nat.le_refl _)).2
    constructor
    · intro t r1
      rw [GT_eq, GT_eq]
      unfold gTermW
      by_cases h1 : ([123] : Str).isPrefixOf r = true
      · rw [if_pos h1, if_pos h1]
        have hd : (r.drop 1).length < r.length := drop_lt h1 (by simp)
        rw [map_some, map_some]
        by_cases he : ([125] : Str).isPrefixOf (r.drop 1) = true
        · unfold gAllW; rw [if_pos he, if_pos he]
          constructor
          · rintro ⟨x, hx, hy⟩
            refine ⟨⟨x, hx, hy⟩, ?_⟩
            injection hx with hx; injection hy with hy _; subst hx hy
            exact limT_leaf
          · exact fun h => h.1
        · constructor
          · rintro ⟨⟨l, r2⟩, hx, hy⟩
            injection hy with hy1 hy2; subst hy1 hy2
            obtain ⟨t, r3, us, r4, h2, h3, h4, h5, rfl, rfl⟩ := (gAllW_iff he).1 hx
            have h2' := (hT _ hd _ _).1 h2
            have := GT_len _ _ _ _ h2
            have h3' := (hM r3 (by omega) _ _).1 h3
            exact ⟨⟨_, (gAllW_iff he).2 ⟨t, r3, us, r4, h2'.1, h3'.1, h4, rfl, rfl, rfl⟩, rfl⟩, fun _ => of_decide_eq_true h5, h2'.2, h3'.2⟩
          · rintro ⟨⟨⟨l, r2⟩, hx, hy⟩, hl⟩
            injection hy with hy1 hy2; subst hy1 hy2
            obtain ⟨t, r3, us, r4, h2, h3, h4, h5, rfl, rfl⟩ := (gAllW_iff he).1 hx
            have := GT_len _ _ _ _ h2
            have h2' := (hT _ hd _ _).2 ⟨h2, hl.2.1⟩
            have h3' := (hM r3 (by omega) _ _).2 ⟨h3, hl.2.2⟩
            exact ⟨_, (gAllW_iff he).2 ⟨t, r3, us, r4, h2', h3', h4, decide_eq_true (hl.1 (.inr rfl)), rfl, rfl⟩, rfl⟩
      · rw [if_neg h1, if_neg h1]
        by_cases h2 : ([91] : Str).isPrefixOf r = true
        · rw [if_pos h2, if_pos h2]
          have hd : (r.drop 1).length < r.length := drop_lt h2 (by simp)
          by_cases he : ([93] : Str).isPrefixOf (r.drop 1) = true
          · unfold pListW; rw [if_pos he, if_pos he]
            refine iff_leaf fun e => ?_
            injection e with e; injection e with e _; subst e; exact limT_leaf
          · rw [pListW_iff he, pListW_iff he]
            have htail : ∀ x : Str, x.length < r.length → ∀ tl r4, pTailW (GT q64) x = some (tl, r4) ↔ pTailW (GT qAny) x = some (tl, r4) ∧ limT tl := by
              intro x hx tl r4
              by_cases hp : ([124] : Str).isPrefixOf x = true
              · rw [pTailW_iff hp, pTailW_iff hp, hT (x.drop 1) (by have := drop_le x 1; omega)]
                exact ⟨fun h => ⟨⟨h.1.1, h.2⟩, h.1.2⟩, fun h => ⟨⟨h.1.1, h.2⟩, h.1.2⟩⟩
              · unfold pTailW; rw [if_neg hp, if_neg hp]
                refine iff_leaf fun e => ?_
                injection e with e; injection e with e _; subst e; exact limT_leaf
            constructor
            · rintro ⟨t, r2, us, r3, tl, r4, a1, a2, a3, a4, rfl, rfl⟩
              have b1 := GT_len _ _ _ _ a1
              have b2 := GM_len _ _ _ _ a2
              have a1' := (hT _ hd _ _).1 a1
              have a2' := (hM r2 (by omega) _ _).1 a2
              have a3' := (htail r3 (by omega) _ _).1 a3
              exact ⟨⟨t, r2, us, r3, tl, r4, a1'.1, a2'.1, a3'.1, a4, rfl, rfl⟩, (limT_mkList _ _).2 ⟨⟨a1'.2, a2'.2⟩, a3'.2⟩⟩
            · rintro ⟨⟨t, r2, us, r3, tl, r4, a1, a2, a3, a4, rfl, rfl⟩, hl⟩
              have hl := (limT_mkList _ _).1 hl
              have b1 := GT_len _ _ _ _ a1
              have b2 := GM_len _ _ _ _ a2
              exact ⟨t, r2, us, r3, tl, r4, (hT _ hd _ _).2 ⟨a1, hl.1.1⟩, (hM r2 (by omega) _ _).2 ⟨a2, hl.1.2⟩, (htail r3 (by omega) _ _).2 ⟨a3, hl.2⟩, a4, rfl, rfl⟩
        · rw [if_neg h2, if_neg h2]
          by_cases h3 : ([39] : Str).isPrefixOf r = true
          · rw [if_pos h3, if_pos h3]; exact iff_leaf fun e => by obtain ⟨s, rfl⟩ := pQuoted_leaf e; exact limT_leaf
          · rw [if_neg h3, if_neg h3]
            by_cases h4 : ([35, 82, 101, 102, 60] : Str).isPrefixOf r = true
            · rw [if_pos h4, if_pos h4]; exact iff_leaf fun e => by obtain ⟨s, rfl⟩ := pNamed_leaf e; exact limT_leaf
            · rw [if_neg h4, if_neg h4]
              by_cases h5 : ([35, 84, 105, 100, 60] : Str).isPrefixOf r = true
              · rw [if_pos h5, if_pos h5]; exact iff_leaf fun e => by obtain ⟨s, rfl⟩ := pNamed_leaf e; exact limT_leaf
              · rw [if_neg h5, if_neg h5]
                by_cases h6 : ([60, 48, 46] : Str).isPrefixOf r = true
                · rw [if_pos h6, if_pos h6]; exact iff_leaf fun e => by obtain ⟨s, rfl⟩ := pNamed_leaf e; exact limT_leaf
                · rw [if_neg h6, if_neg h6]
                  by_cases h7 : ([35, 70, 117, 110, 60] : Str).isPrefixOf r = true
                  · rw [if_pos h7, if_pos h7]
                    have hd : (r.drop 5).length < r.length := drop_lt h7 (by simp)
                    rw [gFunW_iff, gFunW_iff]
                    constructor
                    · rintro ⟨n, r2, us, r3, a1, a2, a3, a4, rfl, rfl⟩
                      have b1 := pNum_len a1
                      have a2' := (hM r2 (by omega) _ _).1 a2
                      exact ⟨⟨n, r2, us, r3, a1, a2'.1, a3, rfl, rfl, rfl⟩, fun _ => of_decide_eq_true a4, a2'.2⟩
                    · rintro ⟨⟨n, r2, us, r3, a1, a2, a3, a4, rfl, rfl⟩, hl⟩
                      have b1 := pNum_len a1
                      exact ⟨n, r2, us, r3, a1, (hM r2 (by omega) _ _).2 ⟨a2, hl.2⟩, a3, decide_eq_true (hl.1 (.inl rfl)), rfl, rfl⟩
                  · rw [if_neg h7, if_neg h7]
                    refine iff_leaf fun e => ?_
                    split at e
                    · obtain ⟨s, rfl⟩ := pPlain_leaf e; exact limT_leaf
                    · obtain ⟨x, _, hx⟩ := map_some.1 e
                      injection hx with hx _; subst hx; exact limT_leaf
    · intro l r1
      rw [GM_eq, GM_eq]
      by_cases hp : ([44] : Str).isPrefixOf r = true
      · have hd : (r.drop 1).length < r.length := drop_lt hp (by simp)
        rw [pMoreW_iff hp, pMoreW_iff hp]
        constructor
        · rintro ⟨t, r2, us, a1, a2, rfl⟩
          have b1 := GT_len _ _ _ _ a1
          have a1' := (hT _ hd _ _).1 a1
          have a2' := (hM r2 (by omega) _ _).1 a2
          exact ⟨⟨t, r2, us, a1'.1, a2'.1, rfl⟩, a1'.2, a2'.2⟩
        · rintro ⟨⟨t, r2, us, a1, a2, rfl⟩, hl⟩
          have b1 := GT_len _ _ _ _ a1
          exact ⟨t, r2, us, (hT _ hd _ _).2 ⟨a1, hl.1⟩, (hM r2 (by omega) _ _).2 ⟨a2, hl.2⟩, rfl⟩
      · unfold pMoreW; rw [if_neg hp, if_neg hp]
        constructor
        · intro e
          refine ⟨e, ?_⟩
          injection e with e; injection e with e _; subst e; trivial
        · exact fun e => e.1

/-! ### How many parts -/
theorem pre_leaf {k n : Int} {s : Str} : (pre (.mk k n s [])).length = 1 := by simp [pre, preL]
theorem pre_mkList : ∀ (l : List Tm) (t : Tm), (pre (mkList l t)).length = l.length + (preL l).length + (pre t).length
  | [], t => by simp [mkList, preL]
  | x :: l, t => by
    have := pre_mkList l t
    simp only [mkList, pre, preL, List.length_cons, List.length_append, this, List.length_nil]
    omega
theorem num_law (q : Nat → Bool) : ∀ (k : Nat) (r : Str), r.length ≤ k → (∀ t r1, GT q r = some (t, r1) → (pre t).length + r1.length ≤ r.length) ∧ (∀ l r1, GM q r = some (l, r1) → (preL l).length + l.length + r1.length ≤ r.length) := by
  intro k
  induction k using Nat.strongRecOn with
  | _ k ih =>
    intro r hr
    have hT : ∀ x : Str, x.length < r.length → ∀ t r1, GT q x = some (t, r1) → (pre t).length + r1.length ≤ x.length := fun x hx => (ih x.length (by omega) x (Nat.le_refl _)).1
    have hM : ∀ x : Str, x.length < r.length → ∀ l r1, GM q x = some (l, r1) → (preL l).length + l.length + r1.length ≤ x.length := fun x hx => (ih x.length (by omega) x (Nat.le_refl _)).2
    constructor
    · intro t r1 h
      have hlt := GT_len _ _ _ _ h
      have leaf : (∃ k n s, t = .mk k n s []) → (pre t).length + r1.length ≤ r.length := by
        rintro ⟨k, n, s, rfl⟩
        rw [pre_leaf]; omega
      rw [GT_eq] at h
      unfold gTermW at h
      split at h
      · rename_i h1
        have hd : (r.drop 1).length < r.length := drop_lt h1 (by simp)
        obtain ⟨⟨l, r2⟩, hx, hy⟩ := map_some.1 h
        injection hy with hy1 hy2; subst hy1 hy2
        by_cases he : ([125] : Str).isPrefixOf (r.drop 1) = true
        · unfold gAllW at hx; rw [if_pos he] at hx
          injection hx with hx; injection hx with hx1 hx2; subst hx1
          exact leaf ⟨_, _, _, rfl⟩
        · obtain ⟨t, r3, us, r4, h2, h3, h4, h5, rfl, rfl⟩ := (gAllW_iff he).1 hx
          have c1 := hT _ hd _ _ h2
          have c2 := GT_len _ _ _ _ h2
          have c3 := hM r3 (by omega) _ _ h3
          have c4 : (r4.drop 1).length < r4.length := drop_lt h4 (by simp)
          have c5 : (r4.drop ([125] : Str).length).length < r4.length := c4
          simp only [pre, preL, List.length_cons, List.length_append]
          simp only [List.length_cons] at c5
          omega
      · split at h
        · rename_i h2
          have hd : (r.drop 1).length < r.length := drop_lt h2 (by simp)
          by_cases he : ([93] : Str).isPrefixOf (r.drop 1) = true
          · unfold pListW at h; rw [if_pos he] at h
            injection h with h; injection h with h _
            exact leaf ⟨_, _, _, h.symm⟩
          · obtain ⟨t, r2, us, r3, tl, r4, a1, a2, a3, a4, rfl, rfl⟩ := (pListW_iff he).1 h
            have c1 := hT _ hd _ _ a1
            have c2 := GT_len _ _ _ _ a1
            have c3 := hM r2 (by omega) _ _ a2
            have c4 : (r4.drop 1).length < r4.length := drop_lt a4 (by simp)
            have c5 : (pre tl).length + r4.length ≤ r3.length + 1 := by
              by_cases hp : ([124] : Str).isPrefixOf r3 = true
              · obtain ⟨a3', _⟩ := (pTailW_iff hp).1 a3
                have d1 : (r3.drop 1).length < r3.length := drop_lt hp (by simp)
                have := hT _ (by omega) _ _ a3'
                omega
              · unfold pTailW at a3; rw [if_neg hp] at a3
                injection a3 with a3; injection a3 with a3 a3'; subst a3 a3'
                rw [show (pre nilT).length = 1 from pre_leaf]; omega
            have c6 : (pre tl).length + r4.length + (if ([124] : Str).isPrefixOf r3 = true then 1 else 0) ≤ r3.length + (if ([124] : Str).isPrefixOf r3 = true then 0 else 1) := by
              by_cases hp : ([124] : Str).isPrefixOf r3 = true
              · obtain ⟨a3', _⟩ := (pTailW_iff hp).1 a3
                have d1 : (r3.drop 1).length < r3.length := drop_lt hp (by simp)
                have := hT _ (by omega) _ _ a3'
                rw [if_pos hp, if_pos hp]; omega
              · rw [if_neg hp, if_neg hp]; omega
            rw [pre_mkList]
            simp only [preL, List.length_cons, List.length_append]
            split at c6 <;> omega
        · split at h
          · obtain ⟨s, rfl⟩ := pQuoted_leaf h; exact leaf ⟨_, _, _, rfl⟩
          · split at h
            · obtain ⟨s, rfl⟩ := pNamed_leaf h; exact leaf ⟨_, _, _, rfl⟩
            · split at h
              · obtain ⟨s, rfl⟩ := pNamed_leaf h; exact leaf ⟨_, _, _, rfl⟩
              · split at h
                · obtain ⟨s, rfl⟩ := pNamed_leaf h; exact leaf ⟨_, _, _, rfl⟩
                · split at h
                  · rename_i h7
                    have hd : (r.drop 5).length < r.length := drop_lt h7 (by simp)
                    obtain ⟨n, r2, us, r3, a1, a2, a3, a4, rfl, rfl⟩ := gFunW_iff.1 h
                    have c1 := pNum_len a1
                    have c2 := hM r2 (by omega) _ _ a2
                    have c3 := drop_le r3 1
                    simp only [pre, List.length_cons]
                    omega
                  · split at h
                    · obtain ⟨s, rfl⟩ := pPlain_leaf h; exact leaf ⟨_, _, _, rfl⟩
                    · obtain ⟨x, _, hx⟩ := map_some.1 h
                      injection hx with hx _; exact leaf ⟨_, _, _, hx.symm⟩
    · intro l r1 h
      rw [GM_eq] at h
      by_cases hp : ([44] : Str).isPrefixOf r = true
      · have hd : (r.drop 1).length < r.length := drop_lt hp (by simp)
        obtain ⟨t, r2, us, a1, a2, rfl⟩ := (pMoreW_iff hp).1 h
        have c1 := hT _ hd _ _ a1
        have c2 := GT_len _ _ _ _ a1
        have c3 := hM r2 (by omega) _ _ a2
        simp only [preL, List.length_cons, List.length_append]
        omega
      · unfold pMoreW at h; rw [if_neg hp] at h
        injection h with h; injection h with h1 h2; subst h1 h2
        simp [preL]
end Go.Proofs.YtefbonjcpdjhcaaGreatDoor.X

/- Stage 2: the document's reader: lists are made; terms with a number alone. -/
set_option linter.unusedVariables false
set_option maxRecDepth 100000
namespace Go.Proofs.YtefbonjcpdjhcaaGreatDoor.X
open Go Go.RowKit

theorem mkList_drop {ts : List Tm} {tl : Tm} {k : Nat} {t : Tm} (h : ts[k]? = some t) : mkList (ts.drop k) tl = .mk 9 0 [] [t, mkList (ts.drop (k + 1)) tl] := by
  obtain ⟨h1, h2⟩ := List.getElem?_eq_some_iff.1 h
  rw [List.drop_eq_getElem_cons h1, h2]; rfl
theorem three_ge {L a b c : Nat} (ha : L ≤ a) (hb : L ≤ b) (hc : L ≤ c) : ∀ x ∈ [a, b, c], L ≤ x := fun x hx => by simp at hx; omega
theorem MakeList02_ok {h : Hp} {x : Sl} {vs : List TV} {w : TV} {Q : Nat → Prop} (hl : vs.length ≤ 1048577) (hQ : ∀ b, Q b → b < h.size) (hx : RepS tc h Q x vs) (X : Chain → Hp → Prop) :
    F_tenureref02_MakeList.call x w h (fun v h' => Fr [] h h' ∧ (∀ ts tl, RepL h Q vs ts → RepT h Q w tl → RepT h' (fun b => Q b ∨ h.size ≤ b) v (mkList ts tl))) X := by
  refine F_tenureref02_MakeList.sound ?_
  unfold F_tenureref02_MakeList.body
  have hlen := hx.1
  rintro x8 hx8 p1 p3 p5 h7 hn1 hn3 hn5 ev
  rw [wrap64 (by omega) (by omega)] at hx8
  subst hx8
  have hb1 := hn1.1
  have hb3 := hn3.1
  have hb5 := hn5.1
  have ht1 := hn1.2
  have ht3 := hn3.2
  have ht5 := hn5.2
  have f7 : Fr [] h h7 := (Fr.refl [] h).ev ev (three_ge hb5 hb3 hb1)
  have hs7 := f7.1
  refine ⟨fun st g => ∃ k : Nat, st.1 = (k : Int) - 1 ∧ k ≤ vs.length ∧ Fr [] h g ∧ h7.size ≤ g.size ∧ (∀ ts tl, RepL h Q vs ts → RepT h Q w tl → RepT g (fun b => Q b ∨ h7.size ≤ b) st.2 (mkList (ts.drop k) tl)),
    fun st _ => (st.1 + 1).toNat, ⟨vs.length, by rw [hlen], Nat.le_refl _, f7, Nat.le_refl _, fun ts tl hts htl => ?_⟩, ?_⟩
  · have := RepL.length _ _ hts
    rw [this, List.drop_length]
    exact RepT.mono (fun b hb => .inl hb) _ _ (RepT.fr f7 (by simp) _ _ htl)
  rintro ⟨_, u⟩ g ⟨k, rfl, hk, fg, hsg, hu⟩
  simp only at hu ⊢
  refine ⟨fun hge => ?_, fun hlt => ?_⟩
  · obtain ⟨i, rfl⟩ : ∃ i, k = i + 1 := ⟨k - 1, by omega⟩
    have hil : i < vs.length := by omega
    have hvi : vs[i]? = some vs[i] := List.getElem?_eq_getElem hil
    have hxg := hx.fr fg (by simp)
    obtain ⟨a, ha, hc⟩ := hxg.get tc_len hvi
    have e1 : (((i + 1 : Nat) : Int)) - 1 = (i : Int) := by omega
    rw [e1]
    refine IdxW.of (by omega) ha ⟨vs[i], hc, fun p15 h16 hp15 e16 => ?_⟩
    have f16 := Fr.push e16
    have s16 := size_push e16
    have b15 : Blk h16 p15 (tc vs[i] ++ tc u) 24 := Blk.new hp15 e16
    rintro x18 hx18 h17 ev17
    rw [wrap64 (by omega) (by omega)] at hx18
    subst hx18
    have f17 := ev17.fr
    have hfg := fg.1
    refine ⟨⟨i, rfl, by omega, (fg.step f16).trans f17 (fun y hy => .inr (by simp at hy; omega)), by have := f17.1; omega, fun ts tl hts htl => ?_⟩, ?_⟩
    · obtain ⟨t, hti, hvt⟩ := RepL.get' ts vs i vs[i] hts hvi
      rw [mkList_drop hti]
      have hne : ∀ b, Q b ∨ h7.size ≤ b → b ∉ [p5, p3, p1] := fun b hb hm => by
        rcases hb with hb | hb
        · have := hQ b hb; simp at hm; omega
        · simp at hm; omega
      refine ⟨rfl, rfl, rfl, [vs[i], u], ⟨rfl, Nat.le_refl _, fun _ => ⟨p15, 0, rfl, .inr (by omega), ?_⟩⟩, ?_, ?_, trivial⟩
      · have := (b15.fr f17 (by simp; omega)).cells0 (vs := tc vs[i] ++ tc u) (List.take_of_length_le (Nat.le_refl _))
        simpa [cellsOf] using this
      · exact RepT.mono (fun b hb => .inl hb) _ _ (RepT.fr ((fg.step f16).trans f17 (fun y hy => .inr (by simp at hy; omega))) (by simp) _ _ hvt)
      · exact RepT.fr f17 hne _ _ (RepT.fr f16 (by simp) _ _ (hu ts tl hts htl))
    · show ((i : Int) - 1 + 1).toNat < ((i : Int) + 1).toNat
      omega
  · obtain rfl : k = 0 := by omega
    intro h19 ev19
    refine ⟨fg.trans ev19.fr (fun y hy => .inr (by simp at hy; omega)), fun ts tl hts htl => ?_⟩
    have := hu ts tl hts htl
    rw [List.drop_zero] at this
    refine RepT.mono (fun b hb => ?_) _ _ (RepT.fr ev19.fr (fun b hb hm => ?_) _ _ this)
    · rcases hb with hb | hb
      · exact .inl hb
      · exact .inr (by omega)
    · rcases hb with hb | hb
      · have := hQ b hb; simp at hm; omega
      · simp at hm; omega

/-! ### Numbered -/
theorem numbered_ok {h : Hp} {p : Nat} {s ahead behind : Str} {i : Nat} {kind : Int} (r : Rdr h p s i false) (hs : Small s) (hi : i ≤ s.length) (ha : ahead ≠ []) (ha' : ahead.length ≤ 100) (hb : behind ≠ []) (hb' : behind.length ≤ 100) (X : Chain → Hp → Prop) :
    F_tenureref05_reader_numbered.call (some ⟨p, 0, none⟩) kind ahead behind h (fun v h' => Fr [p] h h' ∧ RRes p s h.size h' v (if ahead.isPrefixOf (s.drop i) = true then pNamed kind behind ((s.drop i).drop ahead.length) else none)) X := by
  refine F_tenureref05_reader_numbered.sound ?_
  unfold F_tenureref05_reader_numbered.body
  have hpl := r.lt
  intro p1 h2 hn1 ev1 hL2
  have hn1' := hn1.1
  have hn1'' := hn1.2
  have hp1 : p ≠ p1 := by omega
  have f2 : Fr [p] h h2 := ev1.fr.sub (fun y hy => .inr (by simp at hy; omega))
  have r2 := r.fr ev1.fr (one_not hp1)
  refine F_tenureref05_reader_eat.mono (eat_ok r2 hs (by omega) ha ha' _) ?_ fun _ _ h => h
  rintro h3 ⟨f3, hr3⟩
  refine ⟨f3.sameOn hL2 (by simp; omega), fun hL3 => ?_⟩
  obtain ⟨j, b, hj, hjb, r3, hsp⟩ : ∃ j b, j ≤ s.length + 1 ∧ (b = false → j ≤ s.length) ∧ Rdr h3 p s j b ∧ ((b = false ∧ ahead.isPrefixOf (s.drop i) = true ∧ s.drop j = (s.drop i).drop ahead.length) ∨ (b = true ∧ ¬ ahead.isPrefixOf (s.drop i) = true)) := by
    by_cases hp : ahead.isPrefixOf (s.drop i) = true
    · rw [if_pos (by rw [hp]; rfl)] at hr3
      exact ⟨i + ahead.length, false, by have := hr3.2; omega, fun _ => hr3.2, hr3.1, .inl ⟨rfl, hp, by rw [List.drop_drop]⟩⟩
    · rw [if_neg (by simpa using hp)] at hr3
      exact ⟨i, true, by omega, (fun e => by cases e), hr3, .inr ⟨rfl, hp⟩⟩
  refine F_tenureref05_reader_number.mono (number_ok r3 hs hj hjb (by omega) (by omega) _) ?_ fun _ _ h => h
  rintro n h5 ⟨f5, hr5⟩
  refine ⟨f5.sameOn hL3 (by simp; omega), fun hL5 => ?_⟩
  have f25 := f3.same f5
  have hs2 := f2.1
  have hs25 := f25.1
  have hfin : ∀ {h6 h7 : Hp}, Fr [p] h5 h6 → Ev [p1] h6 h7 → Fr [p] h h7 ∧ Fr [p1] h6 h7 := fun f6 ev7 => ⟨(((f2.same f25).same f6)).trans ev7.fr (fun y hy => .inr (by simp at hy; omega)), ev7.fr⟩
  rcases hsp with ⟨hb0, hpre, hdr⟩ | ⟨hb1, hpre⟩
  · rw [if_neg (by rw [hb0]; simp)] at hr5
    rw [if_pos hpre]
    rw [hdr] at hr5
    cases hn : pNum 0 1073741824 ((s.drop i).drop ahead.length) with
    | none =>
      rw [hn] at hr5
      obtain ⟨j5, hj5, r5⟩ := hr5
      refine F_tenureref05_reader_eat.mono (eat_ok r5 hs hj5 hb hb' _) ?_ fun _ _ h => h
      rintro h6 ⟨f6, hr6⟩
      refine ⟨f6.sameOn hL5 (by simp; omega), fun h7 ev7 => ?_⟩
      rw [if_neg (by simp)] at hr6
      have hf := hfin f6 ev7
      refine ⟨hf.1, ?_⟩
      unfold pNamed; rw [hn]
      exact ⟨j5, hj5, hr6.fr hf.2 (one_not hp1)⟩
    | some q =>
      obtain ⟨m, rr⟩ := q
      rw [hn] at hr5
      obtain ⟨j5, hj5, r5, hd5, rfl⟩ := hr5
      refine F_tenureref05_reader_eat.mono (eat_ok r5 hs (by omega) hb hb' _) ?_ fun _ _ h => h
      rintro h6 ⟨f6, hr6⟩
      refine ⟨f6.sameOn hL5 (by simp; omega), fun h7 ev7 => ?_⟩
      have hf := hfin f6 ev7
      refine ⟨hf.1, ?_⟩
      unfold pNamed; rw [hn]
      simp only
      rw [hd5] at hr6
      by_cases hp2 : behind.isPrefixOf rr = true
      · rw [if_pos (by rw [hp2]; rfl)] at hr6
        rw [if_pos hp2]
        exact ⟨j5 + behind.length, hr6.2, hr6.1.fr hf.2 (one_not hp1), by rw [← hd5, List.drop_drop], rfl, rfl, rfl, [], RepS.nil, trivial⟩
      · rw [if_neg (by simpa using hp2)] at hr6
        rw [if_neg hp2]
        exact ⟨j5, by omega, hr6.fr hf.2 (one_not hp1)⟩
  · rw [if_pos hb1] at hr5
    rw [if_neg hpre]
    refine F_tenureref05_reader_eat.mono (eat_ok hr5 hs hj hb hb' _) ?_ fun _ _ h => h
    rintro h6 ⟨f6, hr6⟩
    refine ⟨f6.sameOn hL5 (by simp; omega), fun h7 ev7 => ?_⟩
    rw [if_neg (by simp)] at hr6
    have hf := hfin f6 ev7
    exact ⟨hf.1, j, hj, hr6.fr hf.2 (one_not hp1)⟩
end Go.Proofs.YtefbonjcpdjhcaaGreatDoor.X

/- Stage 2: the document's reader: terms with commas between. -/
set_option linter.unusedVariables false
set_option maxRecDepth 100000
namespace Go.Proofs.YtefbonjcpdjhcaaGreatDoor.X
open Go Go.RowKit

abbrev RT : PT := GT qAny
abbrev RM : PL := GM qAny
theorem RM_eq (r : Str) : RM r = pMoreW RT RM r := GM_eq qAny r
/-- One term and what follows behind commas. -/
def contM (r : Str) : Option (List Tm × Str) :=
  match RT r with
  | none => none
  | some (t, r1) => (RM r1).map fun q => (t :: q.1, q.2)
/-- The same, up to an end. -/
def contA (e r : Str) : Option (List Tm × Str) :=
  match contM r with
  | none => none
  | some (l, r2) => if e.isPrefixOf r2 = true then some (l, r2.drop e.length) else none
theorem gAllW_contA (e r : Str) : gAllW qAny RT RM e r = if e.isPrefixOf r = true then some ([], r.drop e.length) else contA e r := by
  unfold gAllW contA contM
  refine ite2 (fun _ => rfl) fun _ => ?_
  cases RT r with
  | none => rfl
  | some x =>
    obtain ⟨t, r1⟩ := x
    simp only
    cases RM r1 with
    | none => rfl
    | some y => simp [qAny]
theorem contM_none {r : Str} (h : RT r = none) : contM r = none := by unfold contM; rw [h]
theorem contM_end {r r1 : Str} {t : Tm} (h : RT r = some (t, r1)) (hc : ¬ ([44] : Str).isPrefixOf r1 = true) : contM r = some ([t], r1) := by
  unfold contM
  rw [h]
  simp only
  rw [RM_eq]
  unfold pMoreW
  rw [if_neg hc]; rfl
theorem contM_more {r r1 : Str} {t : Tm} (h : RT r = some (t, r1)) (hc : ([44] : Str).isPrefixOf r1 = true) : contM r = (contM (r1.drop 1)).map fun q => (t :: q.1, q.2) := by
  unfold contM
  rw [h]
  simp only
  rw [RM_eq]
  unfold pMoreW
  rw [if_pos hc]
  cases RT (r1.drop 1) with
  | none => rfl
  | some y => simp only
theorem prefix_head {a b : UInt8} {r : Str} (h : ([a] : Str).isPrefixOf r = true) (hab : a ≠ b) : ¬ ([b] : Str).isPrefixOf r = true := by
  obtain ⟨r', rfl⟩ := (isPrefixOf_one _ _).1 h
  intro h2
  obtain ⟨r2, h2⟩ := (isPrefixOf_one _ _).1 h2
  injection h2 with h2 _
  exact hab h2
theorem gFunW_contA (r : Str) : gFunW qAny RM r = match pNum 0 1073741824 r with
    | none => none
    | some (n, r1) => if ([44] : Str).isPrefixOf r1 = true then (contA [62] (r1.drop 1)).map fun q => (.mk 5 n [] q.1, q.2)
      else if ([62] : Str).isPrefixOf r1 = true then some (.mk 5 n [] [], r1.drop 1) else none := by
  unfold gFunW
  cases pNum 0 1073741824 r with
  | none => rfl
  | some x =>
    obtain ⟨n, r1⟩ := x
    simp only
    rw [RM_eq]
    unfold pMoreW
    by_cases hc : ([44] : Str).isPrefixOf r1 = true
    · rw [if_pos hc, if_pos hc]
      unfold contA contM
      cases RT (r1.drop 1) with
      | none => rfl
      | some y =>
        obtain ⟨t, r2⟩ := y
        simp only
        cases RM r2 with
        | none => rfl
        | some z =>
          obtain ⟨ts, r3⟩ := z
          simp only [Option.map_some, qAny, and_true]
          by_cases h62 : ([62] : Str).isPrefixOf r3 = true
          · rw [if_pos h62, if_pos h62]; rfl
          · rw [if_neg h62, if_neg h62]; rfl
    · rw [if_neg hc, if_neg hc]
      simp [qAny]
theorem RT_gt {r : Str} : RT (62 :: r) = none := by
  show GT qAny (62 :: r) = none
  rw [GT_eq]
  unfold gTermW
  simp [List.isPrefixOf, isSmall, small]
  unfold pNum
  have : numTok (62 :: r) = [] := by
    unfold numTok
    split
    · rename_i heq; injection heq with h _; cases h
    · rw [List.takeWhile_cons_of_neg (by decide)]
  rw [this]; rfl
def badOf (h : Hp) (p : Nat) : Bool :=
  match hcell h ⟨p, 2, none⟩ with
  | some (.bool b) => b
  | _ => false
theorem Rdr.badOf {h : Hp} {p : Nat} {s : Str} {i : Nat} {b : Bool} (r : Rdr h p s i b) : Go.Proofs.YtefbonjcpdjhcaaGreatDoor.X.badOf h p = b := by
  have := r.bad 0 _ rfl
  rw [add_zero_lit] at this
  unfold Go.Proofs.YtefbonjcpdjhcaaGreatDoor.X.badOf
  rw [show (⟨p, 2, none⟩ : Addr) = (⟨p, 2, none⟩ : Addr).add 0 from rfl, this]
/-- The contract of term, for what is shorter than k. -/
def RTermC (k : Nat) : Prop := ∀ (h : Hp) (p : Nat) (s : Str) (i : Nat) (X : Chain → Hp → Prop), Rdr h p s i false → Small s → i ≤ s.length → (s.drop i).length < k →
  F_tenureref05_reader_term.call (some ⟨p, 0, none⟩) h (fun v h' => Fr [p] h h' ∧ RRes p s h.size h' v (RT (s.drop i))) X
/-- What is known of a row of terms that grows: L: where the call's own blocks begin; the slice's terms are ts, if it is good. -/
structure Rw (L : Nat) (p : Nat) (s : Str) (g : Hp) (x : Sl) (O : List Nat) (vs : List TV) : Prop where
  one : O.length ≤ 1
  low : ∀ y ∈ O, L ≤ y ∧ y ≠ p
  le : L ≤ g.size
  sl : SlG tc 4 24 g x vs O
theorem Rw.fr {L : Nat} {p : Nat} {s : Str} {g g' : Hp} {x : Sl} {O : List Nat} {vs : List TV} {M : List Nat} (w : Rw L p s g x O vs) (f : Fr M g g') (hm : ∀ y ∈ M, y < L ∨ y = p) : Rw L p s g' x O vs :=
  ⟨w.one, w.low, Nat.le_trans w.le f.1, w.sl.fr f (fun y hy hym => by have := w.low y hy; rcases hm y hym with h | h <;> omega)⟩
theorem Rw.app {L : Nat} {p : Nat} {s : Str} {g g1 : Hp} {x : Sl} {O : List Nat} {vs : List TV} {v : TV} {p12 : Nat} {K : Sl → Hp → Prop} (w : Rw L p s g x O vs) (hpg : p < g.size) (hp : p12 = g.size) (e : g1 = g.push (.cells (tc v).toArray 24)) (hl : vs.length ≤ 1048576)
    (hh : ∀ x' g' O', Rw L p s g' x' O' (vs ++ [v]) → Fr O g g' → (∀ y ∈ O', y ∈ O ∨ g.size < y) → K x' g') : AppW g1 24 4 56 [.int .i64 0, .int .i64 0, .string (ba ([] : Str)), Go.Proofs.YtefbonjcpdjhcaaGreatDoor.X.sl (⟨none, 0, 0⟩ : Sl)] x (⟨some ⟨p12, 0, none⟩, 1, 1⟩ : Sl) K := by
  have f1 := Fr.push e
  have s1 := size_push e
  have hle := w.le
  refine AppW.one tc_len tc_one w.one (w.sl.fr f1 (by simp)) (Blk.new hp e) (by omega) (by omega) rfl ?_
  intro x' g' O' hg hO' f hs
  have hs' := f.1
  exact hh x' g' O' ⟨hO', fun y hy => by rcases hs y hy with h | h; exact w.low y h; omega, by omega, hg⟩ (((Fr.refl O g).step f1).same f) (fun y hy => by rcases hs y hy with h | h; exact .inl h; exact .inr (by omega))
theorem Rw.ltO {L : Nat} {p : Nat} {s : Str} {g : Hp} {x : Sl} {O : List Nat} {vs : List TV} (w : Rw L p s g x O vs) : ∀ y ∈ O, y < g.size := fun y hy => by
  have := w.one
  cases O with
  | nil => cases hy
  | cons z O =>
    obtain rfl : O = [] := by simpa using this
    simp at hy; subst hy; exact w.sl.lt
/-- Terms that lie beside the row. -/
theorem reps_app {L : Nat} {g g' : Hp} {O O' : List Nat} {vs : List TV} {ts : List Tm} {v : TV} {t : Tm} (hr : RepL g (fun b => L ≤ b ∧ b ∉ O) vs ts) (hv : RepT g (fun b => L ≤ b ∧ b ∉ O) v t) (f : Fr O g g') (hs : ∀ y ∈ O', y ∈ O ∨ g.size < y) :
    RepL g' (fun b => L ≤ b ∧ b ∉ O') (vs ++ [v]) (ts ++ [t]) := by
  have r1 : RepL g (fun b => (L ≤ b ∧ b ∉ O) ∧ b < g.size) (vs ++ [v]) (ts ++ [t]) := RepL.bound _ _ (RepL.append _ _ _ _ hr ⟨hv, trivial⟩)
  have r2 := RepL.fr f (fun b hb => hb.1.2) _ _ r1
  exact RepL.mono (fun b hb => ⟨hb.1.1, fun hm => by
    rcases hs b hm with h2 | h2
    · exact hb.1.2 h2
    · omega⟩) _ _ r2
/-- The result of a row. -/
def RRow (p : Nat) (s : Str) (L : Nat) (h' : Hp) (x : Sl) : Option (List Tm × Str) → Prop
  | none => ∃ j, j ≤ s.length + 1 ∧ Rdr h' p s j true
  | some (l, r) => ∃ j, j ≤ s.length ∧ Rdr h' p s j false ∧ s.drop j = r ∧ ∃ vs, RepS tc h' (fun b => L ≤ b) x vs ∧ RepL h' (fun b => L ≤ b) vs l
theorem map_app_nil (o : Option (List Tm × Str)) : o = o.map fun q => ([] ++ q.1, q.2) := by cases o <;> rfl
theorem among_ok {h : Hp} {p : Nat} {s : Str} {i k : Nat} {c : UInt8} (hT : RTermC k) (r : Rdr h p s i false) (hs : Small s) (hi : i ≤ s.length) (hk : (s.drop i).length < k) (hc : c ≠ 44) (X : Chain → Hp → Prop) :
    F_tenureref05_reader_among.call (some ⟨p, 0, none⟩) [c] h (fun x h' => Fr [p] h h' ∧ RRow p s h.size h' x (gAllW qAny RT RM [c] (s.drop i))) X := by
  refine F_tenureref05_reader_among.sound ?_
  unfold F_tenureref05_reader_among.body
  have hsm : s.length ≤ 1048576 := hs
  have hpl := r.lt
  rw [gAllW_contA]
  refine F_tenureref05_reader_starts.mono (starts_ok r hs (by omega) (by simp) (by simp) _) ?_ fun _ _ h => h
  rintro b _ ⟨rfl, rfl⟩
  refine ⟨fun hb => ?_, fun hb => ?_⟩
  · refine F_tenureref05_reader_eat.mono (eat_ok r hs (by omega) (by simp) (by simp) _) ?_ fun _ _ h => h
    rintro h3 ⟨f3, hr3⟩
    rw [if_pos hb] at hr3
    have hb' : ([c] : Str).isPrefixOf (s.drop i) = true := by simpa using hb
    rw [if_pos hb']
    exact ⟨f3, i + 1, hr3.2, hr3.1, by rw [List.drop_drop]; rfl, [], RepS.nil, trivial⟩
  · have hb' : ¬ ([c] : Str).isPrefixOf (s.drop i) = true := by
      have hb2 : ([c] : Str).isPrefixOf (s.drop i) = false := hb
      rw [hb2]; exact Bool.false_ne_true
    rw [if_neg hb']
    refine ⟨fun x g => ∃ O vs, Rw h.size p s g x O vs ∧ Fr [p] h g ∧ ((∃ j, j ≤ s.length + 1 ∧ Rdr g p s j true ∧ contA [c] (s.drop i) = none) ∨
        (∃ ts j, i ≤ j ∧ j ≤ s.length ∧ vs.length ≤ j ∧ Rdr g p s j false ∧ RepL g (fun b => h.size ≤ b ∧ b ∉ O) vs ts ∧ contA [c] (s.drop i) = (contA [c] (s.drop j)).map fun q => (ts ++ q.1, q.2))),
      fun _ g => if badOf g p = true then 0 else s.length + 1 - posOf g p, ⟨[], [], ⟨by simp, by simp, Nat.le_refl _, rfl, rfl⟩, Fr.refl _ _, .inr ⟨[], i, Nat.le_refl _, hi, by simp, r, trivial, map_app_nil _⟩⟩, ?_⟩
    rintro x g ⟨O, vs, hw, fg, hor⟩
    have hfg := fg.1
    refine ⟨_, rfl, ?_⟩
    rcases hor with ⟨j, hj, rg, hno⟩ | ⟨ts, j, hij, hj, hvj, rg, hr, hov⟩
    · refine ⟨true, rg.bad, fun e => (by cases e), fun _ => ⟨fg, ?_⟩⟩
      rw [hno]
      exact ⟨j, hj, rg⟩
    · refine ⟨false, rg.bad, fun _ => ?_, fun e => (by cases e)⟩
      have hlj : (s.drop j).length < k := by rw [List.length_drop] at hk ⊢; omega
      refine F_tenureref05_reader_term.mono (hT g p s j X rg hs hj hlj) ?_ fun _ _ h => h
      rintro v g11 ⟨f11, hres⟩
      have hs11 := f11.1
      have hpg := rg.lt
      have hw11 := hw.fr f11 (fun y hy => .inr (by simpa using hy))
      have hr11 : RepL g11 (fun b => h.size ≤ b ∧ b ∉ O) vs ts := by
        refine RepL.mono (fun b hb => hb.1) _ _ (RepL.fr f11 (fun b hb hm => ?_) _ _ (RepL.bound _ _ hr))
        simp at hm; omega
      intro p12 h13 hp12 e13
      refine hw11.app (by omega) hp12 e13 (by omega) fun x' g15 O' hw15 f15 hs15 => ?_
      have fg15 : Fr [p] h g15 := (fg.same f11).trans f15 (fun y hy => .inr (by have := (hw11.low y hy).1; omega))
      have hpO : p ∉ O := fun hm => (hw11.low _ hm).2 rfl
      cases ht : RT (s.drop j) with
      | none =>
        rw [ht] at hres
        obtain ⟨j1, hj1, rb⟩ := hres
        have r15 := rb.fr f15 hpO
        have hall : contA [c] (s.drop i) = none := by
          rw [hov]; unfold contA; rw [contM_none ht]; rfl
        refine F_tenureref05_reader_starts.mono (starts_ok r15 hs hj1 (by simp) (by simp) _) ?_ fun _ _ h => h
        rintro b _ ⟨rfl, rfl⟩
        refine ⟨fun e => (by simp at e), fun _ => ?_⟩
        refine F_tenureref05_reader_eat.mono (eat_ok r15 hs hj1 (by simp) (by simp) _) ?_ fun _ _ h => h
        rintro h19 ⟨f19, hr19⟩
        rw [if_neg (by simp)] at hr19
        refine ⟨⟨O', _, hw15.fr f19 (fun y hy => .inr (by simpa using hy)), fg15.same f19, .inl ⟨j1, hj1, hr19, hall⟩⟩, ?_⟩
        show (if badOf h19 p = true then 0 else s.length + 1 - posOf h19 p) < (if badOf g p = true then 0 else s.length + 1 - posOf g p)
        rw [hr19.badOf, rg.badOf, rg.posOf]
        simp; omega
      | some tr =>
        obtain ⟨t, r1⟩ := tr
        rw [ht] at hres
        obtain ⟨j1, hj1, rgd, hd1, hv⟩ := hres
        have hlen1 := GT_len _ _ _ _ ht
        have hjj : j < j1 := by
          rw [← hd1, List.length_drop, List.length_drop] at hlen1
          omega
        have r15 := rgd.fr f15 hpO
        have hv' : RepT g11 (fun b => h.size ≤ b ∧ b ∉ O) v t := RepT.mono (fun b hb => ⟨by omega, fun hm => by have := hw.ltO b hm; omega⟩) _ _ hv
        have hr15 := reps_app hr11 hv' f15 hs15
        refine F_tenureref05_reader_starts.mono (starts_ok r15 hs (by omega) (by simp) (by simp) _) ?_ fun _ _ h => h
        rintro b _ ⟨rfl, rfl⟩
        refine ⟨fun he => ?_, fun he => ?_⟩
        · have he' : ([c] : Str).isPrefixOf r1 = true := by rw [← hd1]; simpa using he
          refine F_tenureref05_reader_eat.mono (eat_ok r15 hs (by omega) (by simp) (by simp) _) ?_ fun _ _ h => h
          rintro h18 ⟨f18, hr18⟩
          rw [if_pos he] at hr18
          refine ⟨fg15.same f18, ?_⟩
          have hcA : contA [c] (s.drop j) = some ([t], r1.drop 1) := by
            unfold contA; rw [contM_end ht (prefix_head he' hc)]; simp only; rw [if_pos he']; rfl
          rw [hov, hcA]
          refine ⟨j1 + 1, hr18.2, hr18.1, by rw [← hd1, List.drop_drop], vs ++ [v], ?_, ?_⟩
          · exact (hw15.sl.fr f18 (fun y hy hm => by simp at hm; exact (hw15.low y hy).2 hm)).rep (fun b hb => (hw15.low b hb).1)
          · refine RepL.mono (fun b hb => hb.1.1) _ _ (RepL.fr f18 (fun b hb hm => ?_) _ _ (RepL.bound _ _ hr15))
            simp at hm; omega
        · have he' : ¬ ([c] : Str).isPrefixOf r1 = true := by
            have he2 : ([c] : Str).isPrefixOf (s.drop j1) = false := he
            rw [← hd1, he2]; exact Bool.false_ne_true
          refine F_tenureref05_reader_eat.mono (eat_ok r15 hs (by omega) (by simp) (by simp) _) ?_ fun _ _ h => h
          rintro h19 ⟨f19, hr19⟩
          have hmu : ∀ {b : Bool} {j2 : Nat}, Rdr h19 p s j2 b → (b = false → j < j2) → (if badOf h19 p = true then 0 else s.length + 1 - posOf h19 p) < (if badOf g p = true then 0 else s.length + 1 - posOf g p) := by
            intro b j2 h1 h2
            rw [h1.badOf, h1.posOf, rg.badOf, rg.posOf]
            cases b with
            | true => simp; omega
            | false => have := h2 rfl; simp; omega
          by_cases hcm : ([44] : Str).isPrefixOf r1 = true
          · rw [hd1, if_pos (by rw [hcm]; rfl)] at hr19
            have hd2 : s.drop (j1 + 1) = r1.drop 1 := by rw [← hd1, List.drop_drop]
            refine ⟨⟨O', _, hw15.fr f19 (fun y hy => .inr (by simpa using hy)), fg15.same f19, .inr ⟨ts ++ [t], j1 + 1, by omega, hr19.2, by simp; omega, hr19.1, ?_, ?_⟩⟩, hmu hr19.1 (fun _ => by show j < j1 + 1; omega)⟩
            · refine RepL.mono (fun b hb => hb.1) _ _ (RepL.fr f19 (fun b hb hm => ?_) _ _ (RepL.bound _ _ hr15))
              simp at hm; omega
            · rw [hov, hd2]
              have : contA [c] (s.drop j) = (contA [c] (r1.drop 1)).map fun q => (t :: q.1, q.2) := by
                unfold contA
                rw [contM_more ht hcm]
                cases contM (r1.drop 1) with
                | none => rfl
                | some y =>
                  simp only [Option.map_some]
                  by_cases hy : ([c] : Str).isPrefixOf y.2 = true
                  · rw [if_pos hy, if_pos hy]; rfl
                  · rw [if_neg hy, if_neg hy]; rfl
              rw [this, Option.map_map]
              congr 1
              funext q
              simp
          · rw [hd1, if_neg (by simpa using hcm)] at hr19
            refine ⟨⟨O', _, hw15.fr f19 (fun y hy => .inr (by simpa using hy)), fg15.same f19, .inl ⟨j1, by omega, hr19, ?_⟩⟩, hmu hr19 (fun e => by cases e)⟩
            rw [hov]
            unfold contA
            rw [contM_end ht hcm]
            simp only
            rw [if_neg he']; rfl
end Go.Proofs.YtefbonjcpdjhcaaGreatDoor.X

/- Stage 2: term.parts: the iterator. -/
set_option linter.unusedVariables false
set_option maxRecDepth 100000
namespace Go.Proofs.YtefbonjcpdjhcaaGreatDoor.X
open Go Go.RowKit

/-- The iterator's state: the stack. -/
structure Stk (L : Nat) (P : Nat → Prop) (g : Hp) (p4 : Nat) (ts : List Tm) (Ds : List Nat) : Prop where
  le : L ≤ g.size
  marks : Marks L g Ds
  low : L ≤ p4
  stack : ∃ x vs b, Blk g p4 [sl x] 22 ∧ SlG tc 4 24 g x vs [b] ∧ RepL g P vs ts ∧ L ≤ b ∧ b ≠ p4
theorem Stk.fr {L : Nat} {P : Nat → Prop} {g g' : Hp} {p4 : Nat} {ts : List Tm} {Ds M : List Nat} (k : Stk L P g p4 ts Ds) (f : Fr M g g') (hm : ∀ b ∈ M, b < L ∧ ¬ P b) : Stk L P g' p4 ts Ds := by
  obtain ⟨x, vs, b, h1, h2, h3, h4, h5⟩ := k.stack
  refine ⟨Nat.le_trans k.le f.1, k.marks.fr f (fun D hD hm' => by have := (k.marks.2 D hD).1; have := (hm D hm').1; omega), k.low, x, vs, b,
    h1.fr f (fun hm' => by have := (hm p4 hm').1; have := k.low; omega), h2.fr f (fun y hy hm' => by simp at hy; subst hy; have := (hm y hm').1; omega), RepL.fr f (fun b hb hm' => (hm b hm').2 hb) _ _ h3, h4, h5⟩
theorem get_drop {l m : List Tm} {k : Nat} {t : Tm} (h : l.drop k = t :: m) : l[k]? = some t ∧ l.drop (k + 1) = m ∧ k < l.length := by
  have h1 : l[k]? = some t := by have := congrArg (fun l => l[0]?) h; simpa using this
  refine ⟨h1, ?_, (List.getElem?_eq_some_iff.1 h1).1⟩
  rw [← List.drop_drop, h]; rfl
theorem RepL.snoc {h : Hp} {P : Nat → Prop} : ∀ (l : List Tm) (t : Tm) (vs : List TV), RepL h P vs (l ++ [t]) → ∃ us u, vs = us ++ [u] ∧ RepL h P us l ∧ RepT h P u t
  | [], t, [u], h => ⟨[], u, rfl, trivial, h.1⟩
  | [], t, [], h => h.elim
  | [], t, _ :: _ :: _, h => h.2.elim
  | x :: l, t, v :: vs, h => by
    obtain ⟨us, u, rfl, h2, h3⟩ := RepL.snoc l t vs h.2
    exact ⟨v :: us, u, rfl, ⟨h.1, h2⟩, h3⟩
  | _ :: _, _, [], h => h.elim
theorem preL_len : ∀ l : List Tm, l.length ≤ (preL l).length
  | [] => by simp [preL]
  | t :: l => by
    have := preL_len l
    rw [preL, pre_eq]
    simp; omega
theorem splice_mid (A B C B' : List Value) (h : B.length = B'.length) : splice (A ++ B ++ C) A.length B' = A ++ B' ++ C := by
  unfold splice
  have e2 : (A ++ B ++ C).drop (A.length + B'.length) = C := by rw [← h, ← List.length_append, List.drop_left]
  rw [e2, List.append_assoc A B C, List.take_left]
theorem SlG.putOk {h : Hp} {x : Sl} {vs : List TV} {u : TV} {b : Nat} (g : SlG tc 4 24 h x (vs ++ [u]) [b]) : storable h ((⟨b, 0, none⟩ : Addr).add (vs.length * 4)) 4 := by
  obtain ⟨h1, h2, h3, rest, h4, h5⟩ := g
  refine h5.storable _ 4 ?_
  rw [List.length_append, cellsOf_len tc_len]
  simp; omega
theorem SlG.put {h h1 : Hp} {x : Sl} {vs : List TV} {u v : TV} {b : Nat} (g : SlG tc 4 24 h x (vs ++ [u]) [b]) (e : h1 = hsets h ((⟨b, 0, none⟩ : Addr).add (vs.length * 4)) (tc v)) : SlG tc 4 24 h1 x (vs ++ [v]) [b] := by
  obtain ⟨h1, h2, h3, rest, h4, h5⟩ := g
  have hs := h5.set (off := vs.length * 4) (vs := tc v) (by rw [List.length_append, cellsOf_len tc_len]; simp [tc_len]; omega) e
  rw [cellsOf_append, cellsOf_one, show vs.length * 4 = (cellsOf tc vs).length from (cellsOf_len tc_len vs).symm, splice_mid _ _ _ _ ((tc_len u).trans (tc_len v).symm)] at hs
  refine ⟨by simpa using h1, h2, h3, rest, h4, ?_⟩
  rw [cellsOf_append, cellsOf_one]
  exact hs
theorem parts_1_ok {h : Hp} {f0 : Nat} {v : TV} {t : Tm} {P : Nat → Prop} {y : Value} (M : List Nat) (I : Nat → Hp → Prop) (St : Hp → Prop) (X : Chain → Hp → Prop) (hf0 : Blk h f0 (tc v) 24) (hn : (pre t).length ≤ 1048576)
    (hP : ∀ b, P b → b < h.size) (hv : RepT h P v t) (hM : ∀ b ∈ M, b < h.size ∧ ¬ P b)
    (hI : ∀ k g g', I k g → Low h.size g g' → I k g') (hS : ∀ g g', St g → Low h.size g g' → St g') (h0 : I 0 h)
    (hy : ∀ k u tu g, (pre t)[k]? = some tu → RepT g P u tu → h.size ≤ g.size → I k g → CallV Tryz.prog y [tenc u] g (fun w g' => ∃ b, w = .bool b ∧ Fr M g g' ∧ (if b = true then I (k + 1) g' else St g')) noX) :
    F_term_parts_1.call y ⟨f0, 0, none⟩ h (fun h' => (I (pre t).length h' ∨ St h') ∧ Fr M h h') X := by
  refine F_term_parts_1.sound ?_
  unfold F_term_parts_1.body
  refine ⟨v, hf0.cells0 rfl, ?_⟩
  intro p2 h3 hp2 e3 p4 h5 hp4 e5
  have f3 := Fr.push e3
  have f5 := Fr.push e5
  have s3 := size_push e3
  have s5 := size_push e5
  have b2 : Blk h5 p2 (tc v) 24 := (Blk.new hp2 e3).fr f5 (by simp)
  have b4 : Blk h5 p4 [sl ⟨none, 0, 0⟩] 22 := Blk.new hp4 e5
  refine ⟨b4.storable0 1 (Nat.le_refl _), fun h6 e6 => ?_⟩
  have f6 := Fr.sets e6
  have b46 := b4.set0 (vs := [sl ⟨some ⟨p2, 0, none⟩, 1, 1⟩]) (Nat.le_refl _) e6
  have b26 := b2.fr f6 (one_not (show p2 ≠ p4 by omega))
  have f06 : Fr [] h h6 := (f3.step f5).trans f6 (fun y hy => .inr (by simp at hy; omega))
  have hmx : (1 : Nat) ≤ maxLen := by decide
  have k6 : Stk h.size P h6 p4 [t] [] := ⟨f06.1, ⟨List.nodup_nil, by simp⟩, by omega, ⟨some ⟨p2, 0, none⟩, 1, 1⟩, [v], p2, b46, ⟨rfl, ⟨Nat.le_refl _, hmx⟩, rfl, [], rfl, by simpa [cellsOf] using b26⟩, ⟨RepT.fr f06 (by simp) _ _ hv, trivial⟩, by omega, by omega⟩
  refine ⟨fun s7 g => ∃ ts, s7.2.length ≤ (pre t).length ∧ (pre t).drop s7.2.length = preL ts.reverse ∧ Stk h.size P g p4 ts s7.2 ∧ I s7.2.length g ∧ Fr M h g, fun s7 _ => (pre t).length - s7.2.length,
    ⟨[t], by simp, by simp [preL], k6, hI _ _ _ h0 (Low.fr f06 (by simp) (Nat.le_refl _)), f06.nil⟩, ?_⟩
  rintro ⟨_, Ds⟩ g ⟨ts, hDn, hpre, hk, hIk, fg⟩
  simp only at hDn hpre hk hIk
  have frl : ∀ {g1 g2 : Hp}, Fr M h g1 → Low h.size g1 g2 → Fr M h g2 := fun f l => ⟨Nat.le_trans f.1 l.1, fun b hb hm => by rw [l.2 b hb]; exact f.2 b hb hm⟩
  obtain ⟨x, vs, b, b4g, hx, hr, hb, hb4⟩ := hk.stack
  have hlen := hx.len
  have hvl := RepL.length _ _ hr
  have hnl : ts.length ≤ 1048576 := by
    have h1 := preL_len ts.reverse
    rw [← hpre, List.length_drop, List.length_reverse] at h1
    omega
  refine ⟨x, b4g.cells0 rfl, fun hgt => ?_, fun hle => ?_⟩
  · obtain ⟨ts', tl, rfl⟩ : ∃ ts' tl, ts = ts' ++ [tl] := by
      have hne : ts ≠ [] := by
        intro e
        rw [e] at hvl
        have : vs.length = 0 := hvl
        omega
      exact ⟨ts.dropLast, ts.getLast hne, (List.dropLast_concat_getLast hne).symm⟩
    obtain ⟨us, u, rfl, hus, hu⟩ := RepL.snoc _ _ _ hr
    have hul : x.len = us.length + 1 := by rw [hlen]; simp
    have hpre2 : (pre t).drop Ds.length = tl :: (preL tl.l ++ preL ts'.reverse) := by
      rw [hpre, List.reverse_append]; simp [preL, pre_eq]
    obtain ⟨hk1, hk2, hk3⟩ := get_drop hpre2
    have e1 : IntKind.i64.wrap ((x.len : Int) - 1) = (us.length : Int) := by rw [wrap64 (by omega) (by omega)]; omega
    rw [e1]
    have hrep : RepS tc g (fun _ => True) x (us ++ [u]) := hx.rep (fun _ _ => trivial)
    obtain ⟨a, ha, hc⟩ := hrep.get tc_len (i := us.length) (v := u) (by simp)
    refine IdxW.of (by omega) ha ⟨u, hc, ?_⟩
    intro p15 h16 hp15 e16
    have f16 := Fr.push e16
    have s16 := size_push e16
    have b15 : Blk h16 p15 (tc ⟨0, 0, [], ⟨none, 0, 0⟩⟩) 24 := Blk.new hp15 e16
    have hgs := hk.le
    refine ⟨b15.storable0 4 (Nat.le_refl _), fun h17 e17 => ?_⟩
    have f17 := Fr.sets e17
    have b15 := b15.set0 (vs := tc u) (Nat.le_refl _) e17
    have hp4l := b4g.lt
    have b417 := (b4g.fr f16 (by simp)).fr f17 (one_not (show p4 ≠ p15 by omega))
    refine ⟨x, b417.cells0 rfl, ?_⟩
    dsimp only
    rw [e1]
    have hcap := hrep.2.1
    refine ⟨⟨by omega, by omega, by omega⟩, b417.storable0 1 (Nat.le_refl _), fun h20 e20 => ?_⟩
    have f20 := Fr.sets e20
    have b420 := b417.set0 (vs := [sl (Sl.cut x 4 0 (us.length : Int))]) (Nat.le_refl _) e20
    have b1520 := b15.fr f20 (one_not (show p15 ≠ p4 by omega))
    refine ⟨u, b1520.cells0 rfl, ?_⟩
    have lo20 : Low h.size g h20 := (Low.fr f16 (by simp) hgs).trans ((Low.fr f17 (fun y hy => by simp at hy; omega) (by omega)).trans (Low.fr f20 (fun y hy => by simp at hy; have := hk.low; omega) (by have := f17.1; omega)))
    have hgb := hx.lt
    have fg20 : Fr [p4] g h20 := ((((Fr.refl [p4] g).step f16).trans f17 (fun y hy => .inr (by simp at hy; omega))).same f20)
    have hx20 : SlG tc 4 24 h20 (Sl.cut x 4 0 (us.length : Int)) us [b] := by
      have := hx.cut
      rw [show ((x.len : Int)) - 1 = (us.length : Int) by omega] at this
      exact this.fr fg20 (fun y hy => by simp at hy ⊢; omega)
    have hus20 : RepL h20 P us ts' := RepL.fr fg20 (fun b hb hm => by simp at hm; subst hm; have := hP _ hb; have := hk.low; omega) _ _ hus
    have hu20 : RepT h20 P u tl := RepT.fr fg20 (fun b hb hm => by simp at hm; subst hm; have := hP _ hb; have := hk.low; omega) _ _ hu
    have hmark20 : Marks h.size h20 Ds := hk.marks.fr fg20 (fun D hD hm => by
      simp at hm; subst hm
      have h1 := (hk.marks.2 D hD).2
      rw [show g[D]? = _ from b4g] at h1
      cases h1)
    have hk20 : Stk h.size P h20 p4 ts' Ds := ⟨by have := lo20.1; omega, hmark20, hk.low, _, us, b, b420, hx20, hus20, hb, hb4⟩
    refine CallV.mono (hy Ds.length u tl h20 hk1 hu20 hk20.le (hI _ _ _ hIk lo20)) ?_ fun _ _ h => h
    rintro w h23 ⟨bb, rfl, f23, hbb⟩
    have fM23 : Fr M h h23 := (frl fg lo20).same f23
    have hk23 := hk20.fr f23 hM
    refine ⟨bb, rfl, fun hst => ?_, fun hgo => ?_⟩
    · have hst : bb = false := by simpa using hst
      subst hst
      exact hk23.marks.shut hk23.le fun g' lo => ⟨.inr (hS _ _ (by simpa using hbb) lo), frl fM23 lo⟩
    · have hgo : bb = true := by simpa using hgo
      subst hgo
      simp only [if_true] at hbb
      have b1523 : Blk h23 p15 (tc u) 24 := b1520.fr f23 (fun hm => by have := (hM p15 hm).1; omega)
      refine ⟨u.L, b1523.cells 3 rfl, ?_⟩
      have hu23 : RepT h23 P u tl := RepT.fr f23 (fun b hb hm => (hM b hm).2 hb) _ _ hu20
      obtain ⟨us', hrs, hrl⟩ : ∃ us', RepS tc h23 P u.L us' ∧ RepL h23 P us' tl.l := by
        cases tl
        obtain ⟨_, _, _, us', a, b⟩ := hu23
        exact ⟨us', a, b⟩
      have hcount : ts'.length + tl.l.length ≤ 1048576 := by
        have h1 := preL_len ts'.reverse
        have h2 := preL_len tl.l
        have h3 := congrArg List.length hpre2
        rw [List.length_drop] at h3
        rw [List.length_reverse] at h1
        simp at h3
        omega
      have husl : us'.length = tl.l.length := RepL.length _ _ hrl
      refine F_slices_Backward_api_Term_api_Term.mono (Backward_ok _) ?_ fun _ _ h => h
      rintro _ h28 ⟨pf, hpf, rfl, bf, f28⟩
      intro D l rc y' h7 hD hl7 e7 hy' hround
      have f7 : Fr [] h28 h7 := (Fr.push rfl).step (Fr.push e7)
      have hl0 : h7[l]? = some (.loop (rc .ready none)) := push_at (by rw [hl7]; simp) e7
      have hD0 : h7[D]? = some (.deferred (some [])) := by
        have := (Fr.push e7).at_ (push_at (h := h28) (ob := .deferred (some [])) hD rfl) (by simp)
        exact this
      have hs7 : h7.size = h28.size + 2 := by rw [e7]; simp
      have f237 : Fr [] h23 h7 := f28.step f7
      have hs23 := hk23.le
      have hs28 := bf.lt
      have hpf4 : p4 < pf := by obtain ⟨_, _, _, hh, _⟩ := hk23.stack; rw [hpf]; exact hh.lt
      have hDs : ∀ D' ∈ Ds, D' < pf := fun D' hD' => by rw [hpf]; exact lt_of_at (hk23.marks.2 D' hD').2
      have hcut : CallH Tryz.prog 129 #[y', .pointer (some ⟨pf, 0, none⟩)] h7 (fun _ h8 => h8[l]? = some (.loop (rc .ready none)) ∧ h8[D]? = some (.deferred (some [])) ∧
          Stk h.size P h8 p4 (ts' ++ tl.l.reverse) Ds ∧ Low h.size h7 h8) noX := by
        have main := Backward_1_ok (X := noX) (f0 := pf) (x := u.L) (vs := us') (P := P) (y := y') (h := h7) (fun k h' => h'[l]? = some (.loop (rc .ready none)) ∧ h'[D]? = some (.deferred (some [])) ∧ Blk h' pf [sl u.L] 22 ∧
          Stk h.size P h' p4 (ts' ++ (tl.l.drop k).reverse) Ds ∧ Low h.size h7 h') (by omega) ?_ ?_ ?_
        · refine CallH.mono main ?_ fun _ _ h => h
          rintro _ h8 ⟨_, h81, h82, _, h83, h84⟩
          exact ⟨h81, h82, by simpa using h83, h84⟩
        · rintro k h' ⟨_, _, hb', _, lo⟩
          refine ⟨hb'.cells0 rfl, ?_⟩
          have r1 : RepS tc h7 P u.L us' := hrs.fr f237 (by simp)
          have f' : Fr ((List.range h7.size).filter fun b => decide (h.size ≤ b)) h7 h' := ⟨lo.1, fun b hb hm => lo.2 b (by
            rcases Nat.lt_or_ge b h.size with h' | h'
            · exact h'
            · exact absurd (by simp; exact ⟨hb, h'⟩) hm)⟩
          exact r1.fr f' (fun b hb hm => by have := hP b hb; simp at hm; omega)
        · refine ⟨hl0, hD0, bf.fr f7 (by simp), ?_, Low.refl _ _⟩
          rw [husl, List.drop_length]
          simpa using hk23.fr f237 (by simp)
        · rintro i v' g2 hvi ⟨hgl, hgD, hgf, hkg, log⟩
          obtain ⟨ti, hti, hvt⟩ := RepL.get' tl.l us' i v' hrl hvi
          refine CallV.mono (hround ((i : Int), v') g2 (fun b h'' => b = true ∧ h''[l]? = some (.loop (rc .ready none)) ∧ h''[D]? = some (.deferred (some [])) ∧ Blk h'' pf [sl u.L] 22 ∧
            Stk h.size P h'' p4 (ts' ++ (tl.l.drop i).reverse) Ds ∧ Low h.size h7 h'') hgl ?_) ?_ fun _ _ h => h
          · obtain ⟨x, vs2, b2, b4g, hx2, hr2, hb2, hb42⟩ := hkg.stack
            have hgs := hkg.le
            have hg7 := log.1
            have hlen2 := hx2.len
            have hvl2 := RepL.length _ _ hr2
            have hb2l := hx2.lt
            have hp4l := b4g.lt
            have hlg := lt_of_at hgl
            have hDg := lt_of_at hgD
            have hpfg := hgf.lt
            have hb2c : ∃ cs, Blk g2 b2 cs 24 := by obtain ⟨_, _, _, rest, _, hh⟩ := hx2; exact ⟨_, hh⟩
            obtain ⟨cs2, hb2c⟩ := hb2c
            have hb2l' : b2 ≠ l := fun e => by subst e; rw [show g2[b2]? = _ from hb2c] at hgl; cases hgl
            have hb2D : b2 ≠ D := fun e => by subst e; rw [show g2[b2]? = _ from hb2c] at hgD; cases hgD
            have hb2f : b2 ≠ pf := fun e => by
              subst e
              have : some (Obj.cells cs2.toArray 24 (0, 0)) = some (Obj.cells #[sl u.L] 22 (0, 0)) := (show g2[b2]? = _ from hb2c).symm.trans hgf
              injection this with this; injection this with _ this _; cases this
            have hlD : l ≠ D := by omega
            have hn2 : vs2.length + 1 ≤ 1048576 + 1 := by
              rw [hvl2]; simp; omega
            intro p34 h35 hp34 e35
            have f35 := Fr.push e35
            have s35 := size_push e35
            have b34 : Blk h35 p34 (tc ⟨0, 0, [], ⟨none, 0, 0⟩⟩) 24 := Blk.new hp34 e35
            refine ⟨b34.storable0 4 (Nat.le_refl _), fun h36 e36 => ?_⟩
            have f36 := Fr.sets e36
            have b34 := b34.set0 (vs := tc v') (Nat.le_refl _) e36
            have hl36 : h36[l]? = some (.loop (rc .ready none)) := f36.at_ (f35.at_ hgl (by simp)) (by simp; omega)
            refine ⟨hl36, fun h37 e37 => ?_⟩
            have f37 := Fr.lset e37
            have hl37 : h37[l]? = some (.loop (rc .busy none)) := lset_at (lt_of_at hl36) e37
            have b34 : Blk h37 p34 (tc v') 24 := b34.fr f37 (one_not (by omega))
            have fg37 : Fr [l] g2 h37 := (((Fr.refl [l] g2).step f35).trans f36 (fun y hy => .inr (by simp at hy; omega))).same f37
            have b437 := b4g.fr fg37 (one_not (by omega))
            refine ⟨x, b437.cells0 rfl, v', b34.cells0 rfl, fun p40 h41 hp40 e41 => ?_⟩
            have f41 := Fr.push e41
            have s41 := size_push e41
            have hx41 : SlG tc 4 24 h41 x vs2 [b2] := (hx2.fr fg37 (by simpa using hb2l')).fr f41 (by simp)
            have b40 : Blk h41 p40 (tc ⟨0, 0, [], ⟨none, 0, 0⟩⟩) 24 := Blk.new hp40 e41
            have s37 := fg37.1
            refine AppW.one tc_len tc_one (O := [b2]) (by simp) hx41 b40 (by omega) (by omega) rfl ?_
            intro s44 h45 O' g' hO' f45 hs
            obtain ⟨b3, rfl⟩ : ∃ b3, O' = [b3] := by
              cases O' with
              | nil => obtain ⟨_, e⟩ := g'; simp at e
              | cons b3 O => exact ⟨b3, by simpa using hO'⟩
            have hb3 : b3 = b2 ∨ h41.size ≤ b3 := by simpa using hs b3 (by simp)
            have hl44 : s44.len = vs2.length + 1 := by rw [g'.1]; simp
            have fg45 : Fr [l, b2] g2 h45 := (((fg37.sub (M' := [l, b2]) (fun y hy => .inl (by simp at hy; simp [hy]))).step f41).trans f45 (fun y hy => .inl (by simp at hy; simp [hy])))
            have s45 := fg45.1
            have hb34 : b3 ≠ p4 := by rcases hb3 with h' | h' <;> omega
            have b445 : Blk h45 p4 [sl x] 22 := b4g.fr fg45 (by simp; omega)
            refine IdxW.of (by omega) g'.2.2.1 ?_
            have eoff : (x.len : Int).toNat * 4 = vs2.length * 4 := by omega
            rw [eoff]
            have fin : ∀ (h48 : Hp) (K : Hp → Prop), Fr [p4, b3] h45 h48 → Blk h48 p4 [sl s44] 22 → SlG tc 4 24 h48 s44 (vs2 ++ [v']) [b3] →
                (∀ h49, h49 = lset h48 l (rc .ready none) → (h49[l]? = some (.loop (rc .ready none)) ∧ h49[D]? = some (.deferred (some [])) ∧ Blk h49 pf [sl u.L] 22 ∧
                  Stk h.size P h49 p4 (ts' ++ (tl.l.drop i).reverse) Ds ∧ Low h.size h7 h49) → K h49) → h48[l]? = some (.loop (rc .busy none)) ∧ ∀ h49, h49 = lset h48 l (rc .ready none) → K h49 := by
              intro h48 K f48 b448 hx48 hK
              have fg48 : Fr [l, p4, b2] g2 h48 := (fg45.sub (M' := [l, p4, b2]) (fun y hy => .inl (by simp at hy ⊢; omega))).trans f48 (fun y hy => by
                simp at hy
                rcases hy with rfl | rfl
                · exact .inl (by simp)
                · rcases hb3 with h' | h'
                  · exact .inl (by simp [h'])
                  · exact .inr (by omega))
              have hl48 : h48[l]? = some (.loop (rc .busy none)) := f48.at_ (f45.at_ (f41.at_ hl37 (by simp)) (by simp; omega)) (by
                simp
                refine ⟨by omega, fun e => ?_⟩
                rcases hb3 with h' | h'
                · exact hb2l' (by omega)
                · omega)
              refine ⟨hl48, fun h49 e49 => hK h49 e49 ?_⟩
              have f49 := Fr.lset e49
              have fg49 : Fr [l, p4, b2] g2 h49 := fg48.trans f49 (fun y hy => .inl (by simp at hy; simp [hy]))
              refine ⟨lset_at (lt_of_at hl48) e49, fg49.at_ hgD (by simp; omega), hgf.fr fg49 (by simp; omega), ⟨by have := fg49.1; omega, ?_, hkg.low, s44, vs2 ++ [v'], b3, b448.fr f49 (one_not (by omega)), hx48.fr f49 (by
                  simp
                  intro e
                  rcases hb3 with h' | h'
                  · exact hb2l' (by omega)
                  · omega), ?_, by omega, hb34⟩, log.trans (Low.fr fg49 (fun y hy => by simp at hy; rcases hy with rfl | rfl | rfl <;> omega) hgs)⟩
              · refine hkg.marks.fr fg49 (fun D' hD' hm => ?_)
                have h1 := (hkg.marks.2 D' hD').2
                simp at hm
                rcases hm with rfl | rfl | rfl
                · rw [hgl] at h1; cases h1
                · rw [show g2[D']? = _ from b4g] at h1; cases h1
                · rw [show g2[D']? = _ from hb2c] at h1; cases h1
              · obtain ⟨hti1, hti2⟩ := List.getElem?_eq_some_iff.1 hti
                rw [List.drop_eq_getElem_cons hti1, hti2, List.reverse_cons, ← List.append_assoc]
                refine RepL.append _ _ _ _ (RepL.fr fg49 (fun b hb hm => ?_) _ _ hr2) ⟨RepT.mono (fun b hb => hb) _ _ ?_, trivial⟩
                · have := hP b hb
                  have := hkg.low
                  simp at hm; omega
                · have f' : Fr ((List.range h7.size).filter fun b => decide (h.size ≤ b)) h7 g2 := ⟨log.1, fun b hb hm => log.2 b (by
                    rcases Nat.lt_or_ge b h.size with h' | h'
                    · exact h'
                    · exact absurd (by simp; exact ⟨hb, h'⟩) hm)⟩
                  have r1 := RepT.fr f237 (by simp) _ _ hvt
                  have r2 := RepT.fr f' (fun b hb hm => by have := hP b hb; simp at hm; omega) _ _ r1
                  exact RepT.fr fg49 (fun b hb hm => by have := hP b hb; have := hkg.low; simp at hm; omega) _ _ r2
            constructor
            · refine ⟨g'.putOk, fun h47 e47 => ?_⟩
              have f47 := Fr.sets e47
              rw [add_block] at f47
              have g47 := g'.put e47
              have b447 := b445.fr f47 (one_not (fun e => hb34 e.symm))
              refine ⟨b447.storable0 1 (Nat.le_refl _), fun h48 e48 => ?_⟩
              have f48 := Fr.sets e48
              have b448 := b447.set0 (vs := [sl s44]) (Nat.le_refl _) e48
              exact fin h48 _ ((f47.sub (M' := [p4, b3]) (fun y hy => .inl (by simp at hy; simp [hy]))).trans f48 (fun y hy => .inl (by simp at hy; simp [hy]))) b448 (g47.fr f48 (by simpa using hb34)) fun h49 _ hh => ⟨rfl, hh⟩
            · refine ⟨b445.storable0 1 (Nat.le_refl _), fun h47 e47 => ?_⟩
              have f47 := Fr.sets e47
              have b447 := b445.set0 (vs := [sl s44]) (Nat.le_refl _) e47
              have g47 : SlG tc 4 24 h47 s44 (vs2 ++ [_]) [b3] := g'.fr f47 (by simpa using hb34)
              refine ⟨g47.putOk, fun h48 e48 => ?_⟩
              have f48 := Fr.sets e48
              rw [add_block] at f48
              have g48 := g47.put e48
              have b448 := b447.fr f48 (one_not (fun e => hb34 e.symm))
              exact fin h48 _ ((f47.sub (M' := [p4, b3]) (fun y hy => .inl (by simp at hy; simp [hy]))).trans f48 (fun y hy => .inl (by simp at hy; simp [hy]))) b448 g48 fun h49 _ hh => ⟨rfl, hh⟩
          · rintro _ h' ⟨b, rfl, rfl, hI⟩
            exact ⟨rfl, hI⟩
      refine CallE.func (hr := by intro _ _; kernel_rfl) (CallH.mono hcut ?_ fun _ _ h => h)
      rintro _ h8 ⟨hl8, hD8, hk8, lo8⟩
      refine .inl ⟨hl8, fun h9 e9 => ?_⟩
      have f9 := Fr.lset e9
      have hk9 := hk8.fr (M := []) (g' := h8) (Fr.refl _ _) (by simp)
      have lo9 : Low h.size h23 h9 := (Low.fr f28 (by simp) hs23).trans ((Low.fr f7 (by simp) (by omega)).trans (lo8.trans (Low.fr f9 (fun y hy => by simp at hy; omega) hk8.le)))
      obtain ⟨x8, vs8, b8, b48, hx8, hr8, hb8, hb48⟩ := hk8.stack
      have hb8l : b8 ≠ l := fun e => by
        obtain ⟨_, _, _, rest, _, hh⟩ := hx8
        subst e
        rw [show h8[b8]? = _ from hh] at hl8; cases hl8
      refine ⟨⟨ts' ++ tl.l.reverse, by simp; omega, ?_, ⟨by have := lo9.1; omega, ⟨?_, fun D' hD' => ?_⟩, hk8.low, x8, vs8, b8, b48.fr f9 (one_not (by omega)), hx8.fr f9 (by simpa using hb8l), RepL.fr f9 (fun b hb hm => by have := hP b hb; simp at hm; omega) _ _ hr8, hb8, hb48⟩, hI _ _ _ hbb lo9, frl fM23 lo9⟩, ?_⟩
      · show (pre t).drop (Ds.length + 1) = _
        rw [hk2, List.reverse_append, List.reverse_reverse, preL_append]
      · exact List.nodup_cons.2 ⟨fun hm => by have := hDs _ hm; omega, hk8.marks.1⟩
      · rcases List.mem_cons.1 hD' with rfl | hm
        · exact ⟨by omega, f9.at_ hD8 (one_not (by omega))⟩
        · exact ⟨(hk8.marks.2 D' hm).1, f9.at_ (hk8.marks.2 D' hm).2 (one_not (by have := hDs _ hm; omega))⟩
      · show (pre t).length - (Ds.length + 1) < (pre t).length - Ds.length
        omega
  · have hts : ts = [] := List.eq_nil_of_length_eq_zero (by omega)
    subst hts
    have hdone : (pre t).length ≤ Ds.length := by simpa [preL] using hpre
    refine hk.marks.shut hk.le fun g' lo => ⟨.inl ?_, frl fg lo⟩
    rw [show (pre t).length = Ds.length by omega]
    exact hI _ _ _ hIk lo
end Go.Proofs.YtefbonjcpdjhcaaGreatDoor.X

/- Stage 2: term.Check, text.Read. -/
set_option linter.unusedVariables false
set_option maxRecDepth 100000
namespace Go.Proofs.YtefbonjcpdjhcaaGreatDoor.X
open Go Go.RowKit

def ownT (t : Tm) : Nat := if t.kind = 7 ∨ t.kind = 5 then 2 else 1
def soundT (t : Tm) : Bool := soundB t.kind t.n t.s (t.l.length : Int)
def wordsL (l : List Tm) : Nat := (l.map ownT).sum
/-- Why a term may not be. -/
def chk (t : Tm) : Int := if (pre t).all soundT = true then (if 65536 < wordsL (pre t) then 3 else 0) else 2
theorem RepT.fields {h : Hp} {P : Nat → Prop} {v : TV} {t : Tm} (r : RepT h P v t) : v.Kind = t.kind ∧ v.N = t.n ∧ v.S = t.s ∧ v.L.len = t.l.length := by
  cases t
  obtain ⟨h1, h2, h3, vs, h4, h5⟩ := r
  exact ⟨h1, h2, h3, by rw [h4.1]; exact RepL.length _ _ h5⟩
theorem wordsL_take {l : List Tm} {k : Nat} {t : Tm} (h : l[k]? = some t) : wordsL (l.take (k + 1)) = wordsL (l.take k) + ownT t := by
  unfold wordsL
  rw [List.take_add_one, h]
  simp
theorem wordsL_le : ∀ l : List Tm, wordsL l ≤ 2 * l.length
  | [] => by simp [wordsL]
  | t :: l => by
    have := wordsL_le l
    simp only [wordsL, List.map_cons, List.sum_cons, List.length_cons] at *
    have : ownT t ≤ 2 := by unfold ownT; split <;> omega
    omega
theorem all_take {l : List Tm} {k : Nat} {t : Tm} (h : l[k]? = some t) : (l.take (k + 1)).all soundT = ((l.take k).all soundT && soundT t) := by
  rw [List.take_add_one, h]
  simp
theorem parts_ok (v : TV) (h : Hp) (X : Chain → Hp → Prop) : F_term_parts.call v h (fun r h' => ∃ p, p = h.size ∧ r = Value.func (.func 115) #[] #[.pointer (some ⟨p, 0, none⟩)] ∧ Blk h' p (tc v) 24 ∧ Fr [] h h') X := by
  refine F_term_parts.sound ?_
  unfold F_term_parts.body
  intro p h2 hp e
  exact ⟨p, hp, rfl, Blk.new hp e, Fr.push e⟩
theorem F_term_Check.ok {h : Hp} {v : TV} {t : Tm} {P : Nat → Prop} (hv : RepT h P v t) (hn : (pre t).length ≤ 1048576) (X : Chain → Hp → Prop) : F_term_Check.call v h (fun r h' => r = chk t ∧ Fr [] h h') X := by
  have hv := RepT.bound _ _ hv
  refine F_term_Check.sound ?_
  unfold F_term_Check.body
  intro p1 h2 hp1 e2 p3 h4 hp3 e4 p5 h6 hp5 e6
  have f2 := Fr.push e2
  have f4 := Fr.push e4
  have f6 := Fr.push e6
  have s2 := size_push e2
  have s4 := size_push e4
  have s6 := size_push e6
  have b1 : Blk h6 p1 (tc v) 24 := ((Blk.new hp1 e2).fr f4 (by simp)).fr f6 (by simp)
  have b3 : Blk h6 p3 [.int .i64 0] 27 := (Blk.new (cs := [.int .i64 0]) hp3 e4).fr f6 (by simp)
  have b5 : Blk h6 p5 [.int .i64 0] 3 := Blk.new (cs := [.int .i64 0]) hp5 e6
  refine ⟨b5.storable0 1 (Nat.le_refl _), fun h7 e7 => ?_⟩
  have f7 := Fr.sets e7
  have b57 : Blk h7 p5 [.int .i64 0] 3 := b5.set0 (vs := [.int .i64 0]) (Nat.le_refl _) e7
  have b17 := b1.fr f7 (one_not (show p1 ≠ p5 by omega))
  have b37 := b3.fr f7 (one_not (show p3 ≠ p5 by omega))
  refine ⟨v, b17.cells0 rfl, ?_⟩
  have f07 : Fr [] h h7 := ((f2.step f4).step f6).trans f7 (fun y hy => .inr (by simp at hy; omega))
  refine F_term_parts.mono (parts_ok _ _ _) ?_ fun _ _ h => h
  rintro _ h10 ⟨pf, hpf, rfl, bf, f10⟩
  intro D l rc y h11 hD hl11 e11 hy hround
  have f11 : Fr [] h10 h11 := (Fr.push rfl).step (Fr.push e11)
  have hl0 : h11[l]? = some (.loop (rc .ready none)) := push_at (by rw [hl11]; simp) e11
  have hD0 : h11[D]? = some (.deferred (some [])) := by
    have := (Fr.push e11).at_ (push_at (h := h10) (ob := .deferred (some [])) hD rfl) (by simp)
    exact this
  have hs11 : h11.size = h10.size + 2 := by rw [e11]; simp
  have f711 : Fr [] h7 h11 := f10.step f11
  have b311 := b37.fr f711 (by simp)
  have b511 := b57.fr f711 (by simp)
  have bf11 := bf.fr f11 (by simp)
  have h3l := b37.lt
  have h5l := b57.lt
  have hfl := bf.lt
  have f011 := f07.step f711
  have hs0 := f07.1
  have hcut : CallH Tryz.prog 115 #[y, .pointer (some ⟨pf, 0, none⟩)] h11 (fun _ h' =>
      (((h'[l]? = some (.loop (rc .ready none)) ∧ Blk h' p3 [.int .i64 0] 27 ∧ Blk h' p5 [.int .i64 ((wordsL (pre t) : Nat) : Int)] 3 ∧ (pre t).all soundT = true) ∨
        (h'[l]? = some (.loop (rc .done (some .ret))) ∧ Blk h' p3 [.int .i64 2] 27 ∧ (pre t).all soundT = false)) ∧ Fr [p5, p3, l] h11 h')) noX := by
    have main := parts_1_ok (h := h11) (f0 := pf) (v := v) (t := t) (P := fun b => P b ∧ b < h.size) (y := y) [p5, p3, l]
      (fun k g => g[l]? = some (.loop (rc .ready none)) ∧ Blk g p3 [.int .i64 0] 27 ∧ Blk g p5 [.int .i64 ((wordsL ((pre t).take k) : Nat) : Int)] 3 ∧ ((pre t).take k).all soundT = true)
      (fun g => g[l]? = some (.loop (rc .done (some .ret))) ∧ Blk g p3 [.int .i64 2] 27 ∧ (pre t).all soundT = false) noX bf11 hn (fun b hb => by omega) (RepT.fr f011 (by simp) _ _ hv)
      (fun b hb => by simp at hb; omega) ?_ ?_ ?_ ?_
    · refine CallH.mono main ?_ fun _ _ h => h
      rintro _ h' ⟨_, hor, f⟩
      refine ⟨?_, f⟩
      rcases hor with hI | hS
      · rw [List.take_length] at hI
        exact .inl hI
      · exact .inr hS
    · rintro k g g' ⟨a1, a2, a3, a4⟩ lo
      exact ⟨by rw [lo.2 l (by omega)]; exact a1, by unfold Blk; rw [lo.2 p3 (by omega)]; exact a2, by unfold Blk; rw [lo.2 p5 (by omega)]; exact a3, a4⟩
    · rintro g g' ⟨a1, a2, a3⟩ lo
      exact ⟨by rw [lo.2 l (by omega)]; exact a1, by unfold Blk; rw [lo.2 p3 (by omega)]; exact a2, a3⟩
    · exact ⟨hl0, b311, by simpa [wordsL] using b511, by simp⟩
    · rintro k u tu g hk hu hgs ⟨hgl, g3, g5, hall⟩
      refine CallV.mono (hround u g (fun b g' => Fr [p5, p3, l] g g' ∧ (if b = true then
          (g'[l]? = some (.loop (rc .ready none)) ∧ Blk g' p3 [.int .i64 0] 27 ∧ Blk g' p5 [.int .i64 ((wordsL ((pre t).take (k + 1)) : Nat) : Int)] 3 ∧ ((pre t).take (k + 1)).all soundT = true)
          else (g'[l]? = some (.loop (rc .done (some .ret))) ∧ Blk g' p3 [.int .i64 2] 27 ∧ (pre t).all soundT = false))) hgl ?_) ?_ fun _ _ h => h
      · obtain ⟨e1, e2, e3, e4⟩ := hu.fields
        have hkl : k < (pre t).length := (List.getElem?_eq_some_iff.1 hk).1
        intro p16 h17 hp16 e17
        have f17 := Fr.push e17
        have s17 := size_push e17
        have b16 : Blk h17 p16 (tc ⟨0, 0, [], ⟨none, 0, 0⟩⟩) 24 := Blk.new hp16 e17
        refine ⟨b16.storable0 4 (Nat.le_refl _), fun h18 e18 => ?_⟩
        have f18 := Fr.sets e18
        have b16 := b16.set0 (vs := tc u) (Nat.le_refl _) e18
        have hl18 : h18[l]? = some (.loop (rc .ready none)) := f18.at_ (f17.at_ hgl (by simp)) (by simp; omega)
        refine ⟨hl18, fun h19 e19 => ?_⟩
        have f19 := Fr.lset e19
        have hl19 : h19[l]? = some (.loop (rc .busy none)) := lset_at (lt_of_at hl18) e19
        have b16 : Blk h19 p16 (tc u) 24 := b16.fr f19 (one_not (by omega))
        have fg19 : Fr [l] g h19 := (((Fr.refl [l] g).step f17).trans f18 (fun y hy => .inr (by simp at hy; omega))).same f19
        refine ⟨u, b16.cells0 rfl, ?_⟩
        refine F_term_sound.mono (F_term_sound.ok _ _ _) ?_ fun _ _ h => h
        rintro r h22 ⟨rfl, f22⟩
        have hsnd : soundB u.Kind u.N u.S u.L.len = soundT tu := by unfold soundT; rw [e1, e2, e3, e4]
        rw [hsnd]
        have fg22 : Fr [l] g h22 := fg19.step f22
        have g322 := g3.fr fg22 (one_not (by omega))
        have g522 := g5.fr fg22 (one_not (by omega))
        have b1622 := b16.fr f22 (by simp)
        have hl22 := f22.at_ hl19 (by simp)
        refine ⟨fun hu' => ?_, fun hu' => ?_⟩
        · have hu' : soundT tu = false := by simpa using hu'
          refine ⟨g322.storable0 1 (Nat.le_refl _), fun h23 e23 => ?_⟩
          have f23 := Fr.sets e23
          have g323 := g322.set0 (vs := [.int .i64 2]) (Nat.le_refl _) e23
          have hl23 := f23.at_ hl22 (one_not (show l ≠ p3 by omega))
          refine ⟨hl23, fun h24 e24 => ?_⟩
          have f24 := Fr.lset e24
          refine ⟨((fg22.sub (M' := [p5, p3, l]) (fun y hy => .inl (by simp at hy; simp [hy]))).trans f23 (fun y hy => .inl (by simp at hy; simp [hy]))).trans f24 (fun y hy => .inl (by simp at hy; simp [hy])), ?_⟩
          simp only [Bool.false_eq_true, if_false]
          refine ⟨lset_at (lt_of_at hl23) e24, g323.fr f24 (one_not (by omega)), ?_⟩
          rw [List.all_eq_false]
          exact ⟨tu, List.mem_of_getElem? hk, by simp [hu']⟩
        · have hu' : soundT tu = true := by simpa using hu'
          refine ⟨_, g522.cells0 rfl, u, b1622.cells0 rfl, ?_⟩
          refine F_term_own.mono (F_term_own.ok _ _ _) ?_ fun _ _ h => h
          rintro r h27 ⟨rfl, f27⟩
          have fg27 := fg22.step f27
          have g527 := g522.fr f27 (by simp)
          have g327 := g322.fr f27 (by simp)
          have hl27 := f27.at_ hl22 (by simp)
          refine ⟨g527.cells0 rfl, g527.storable0 1 (Nat.le_refl _), fun h29 e29 => ?_⟩
          have f29 := Fr.sets e29
          have hwl := wordsL_le ((pre t).take k)
          rw [List.length_take] at hwl
          have hsum : IntKind.i64.wrap (((wordsL ((pre t).take k) : Nat) : Int) + if u.Kind = 7 ∨ u.Kind = 5 then 2 else 1) = ((wordsL ((pre t).take (k + 1)) : Nat) : Int) := by
            rw [wordsL_take hk, e1]
            unfold ownT
            split <;> rw [wrap64 (by omega) (by omega)] <;> omega
          rw [hsum] at e29
          have g529 := g527.set0 (vs := [.int .i64 ((wordsL ((pre t).take (k + 1)) : Nat) : Int)]) (Nat.le_refl _) e29
          have g329 := g327.fr f29 (one_not (show p3 ≠ p5 by omega))
          have hl29 := f29.at_ hl27 (one_not (show l ≠ p5 by omega))
          refine ⟨hl29, fun h30 e30 => ?_⟩
          have f30 := Fr.lset e30
          refine ⟨((fg27.sub (M' := [p5, p3, l]) (fun y hy => .inl (by simp at hy; simp [hy]))).trans f29 (fun y hy => .inl (by simp at hy; simp [hy]))).trans f30 (fun y hy => .inl (by simp at hy; simp [hy])), ?_⟩
          simp only [if_true]
          refine ⟨lset_at (lt_of_at hl29) e30, g329.fr f30 (one_not (by omega)), g529.fr f30 (one_not (by omega)), ?_⟩
          rw [all_take hk, hall, hu']; rfl
      · rintro _ g' ⟨b, rfl, hb⟩
        exact ⟨b, rfl, hb⟩
  refine CallE.func (hr := by intro _ _; kernel_rfl) (CallH.mono hcut ?_ fun _ _ h => h)
  rintro _ h12 ⟨hor, f12⟩
  have hlp : p5 ≠ l ∧ p3 ≠ l ∧ D ≠ l ∧ p3 ≠ p5 := by omega
  have hD12 : h12[D]? = some (.deferred (some [])) := f12.at_ hD0 (by simp; omega)
  have f012 : Fr [] h h12 := f011.trans f12 (fun y hy => .inr (by simp at hy; omega))
  have fin : ∀ {g : Hp} {r : Int}, Blk g p3 [.int .i64 r] 27 → g[D]? = some (.deferred (some [])) → Fr [] h g → r = chk t → ShutW [D] g (fun g' => LoadW g' ⟨p3, 0, none⟩ (cI .i64) (fun (x36 : Int) => (fun r h' => r = chk t ∧ Fr [] h h') x36 g')) := by
    intro g r g3 gD fg hr
    refine ⟨gD, fun g' e' => ?_⟩
    have f' := Fr.lset e'
    refine ⟨r, (g3.fr f' (one_not (by omega))).cells0 rfl, hr, fg.trans f' (fun y hy => .inr (by simp at hy; omega))⟩
  rcases hor with ⟨hl12, g3, g5, hall⟩ | ⟨hl12, g3, hall⟩
  · refine .inl ⟨hl12, fun h13 e13 => ?_⟩
    have f13 := Fr.lset e13
    have g313 := g3.fr f13 (one_not hlp.2.1)
    have g513 := g5.fr f13 (one_not hlp.1)
    have hD13 := f13.at_ hD12 (one_not hlp.2.2.1)
    have f013 : Fr [] h h13 := f012.trans f13 (fun y hy => .inr (by simp at hy; omega))
    refine ⟨_, g513.cells0 rfl, fun hgt => ?_, fun hle => ?_⟩
    · refine ⟨g313.storable0 1 (Nat.le_refl _), fun h34 e34 => ?_⟩
      have f34 := Fr.sets e34
      refine fin (g313.set0 (vs := [.int .i64 3]) (Nat.le_refl _) e34) (f34.at_ hD13 (by simp; omega)) (f013.trans f34 (fun y hy => .inr (by simp at hy; omega))) ?_
      unfold chk; rw [if_pos hall, if_pos (by omega)]
    · refine ⟨g313.storable0 1 (Nat.le_refl _), fun h34 e34 => ?_⟩
      have f34 := Fr.sets e34
      refine fin (g313.set0 (vs := [.int .i64 0]) (Nat.le_refl _) e34) (f34.at_ hD13 (by simp; omega)) (f013.trans f34 (fun y hy => .inr (by simp at hy; omega))) ?_
      unfold chk; rw [if_pos hall, if_neg (by omega)]
  · refine .inr ⟨.ret, hl12, fun h13 e13 => ⟨rfl, ?_⟩⟩
    have f13 := Fr.lset e13
    refine fin (g3.fr f13 (one_not hlp.2.1)) (f13.at_ hD12 (one_not hlp.2.2.1)) (f012.trans f13 (fun y hy => .inr (by simp at hy; omega))) ?_
    unfold chk; rw [if_neg (by rw [hall]; simp)]

/-! ### A whole text -/
theorem pRead_num {s : Str} {t : Tm} (h : pRead s = some t) : (pre t).length ≤ s.length := by
  rw [pRead_eq] at h
  split at h
  · cases h
  · rename_i t' r hg
    split at h
    · injection h with h; subst h
      have := (num_law q64 s.length s (Nat.le_refl _)).1 _ _ hg
      omega
    · cases h
/-- What text.Read tells. -/
def tRead (s : Str) : Option Tm × Int :=
  match pRead s with
  | none => (none, 4)
  | some t => if chk t = 0 then (some t, 0) else (none, chk t)
/-- The zero term. -/
def zeroT : Tm := .mk 0 0 [] []
theorem F_text_Read.ok {h : Hp} {s : Str} (g : Gl h) (hs : Small s) (X : Chain → Hp → Prop) :
    F_text_Read.call s h (fun v e h' => e = (tRead s).2 ∧ RepT h' (fun b => h.size ≤ b) v ((tRead s).1.getD zeroT) ∧ Fr [] h h') X := by
  refine F_text_Read.sound ?_
  unfold F_text_Read.body
  intro p1 h2 hn1 ev1 hL1
  have f2 : Fr [] h h2 := (Fr.refl [] h).ev ev1 (one_ge hn1.1)
  have g2 := g.fr f2 (by simp)
  have hz : ∀ h', RepT h' (fun b => h.size ≤ b) (⟨0, 0, ([] : Str), (⟨none, 0, 0⟩ : Sl)⟩ : V_api_Term) zeroT := fun h' => ⟨rfl, rfl, rfl, [], RepS.nil, trivial⟩
  refine F_text_read.mono (F_text_read.ok g2 hs _) ?_ fun _ _ h => h
  rintro v ok h5 ⟨rfl, hv, f5⟩
  refine ⟨f5.sameOn hL1 (by simp), fun hno => ?_, fun hyes => ?_⟩
  · intro p6 h9 hn6 ev6
    have hp : pRead s = none := by simpa using hno
    refine ⟨by unfold tRead; rw [hp], ?_, ?_⟩
    · unfold tRead; rw [hp]; exact hz _
    · have := f2.1
      have := f5.1
      exact (f2.step f5).trans ev6.fr (fun y hy => .inr (by simp at hy; have := hn6.1; have := hn1.1; omega))
  · intro p6 h8 hn6 ev6 hL6
    obtain ⟨t, ht⟩ : ∃ t, pRead s = some t := by
      cases hp : pRead s with
      | none => rw [hp] at hyes; simp at hyes
      | some t => exact ⟨t, rfl⟩
    have hv5 := hv t ht
    have hs2 := f2.1
    have hs5 := f5.1
    have hn1' := hn1.1
    have hn1'' := hn1.2
    have hn6' := hn6.1
    have hv5 := RepT.bound _ _ hv5
    have hv8 : RepT h8 (fun b => h2.size ≤ b ∧ b < h5.size) v t := RepT.fr ev6.fr (fun b hb hm => by simp at hm; omega) _ _ hv5
    have f8 : Fr [] h h8 := (f2.step f5).trans ev6.fr (fun y hy => .inr (by simp at hy; omega))
    refine F_term_Check.mono (F_term_Check.ok hv8 (by have := pRead_num ht; have : s.length ≤ 1048576 := hs; omega) _) ?_ fun _ _ h => h
    rintro r h11 ⟨rfl, f11⟩
    have hv11 : RepT h11 (fun b => h2.size ≤ b ∧ b < h5.size) v t := RepT.fr f11 (by simp) _ _ hv8
    refine ⟨f11.sameOn hL6 (by simp), fun hne => fun h12 ev12 => ?_, fun heq => fun h12 ev12 => ?_⟩
    · have hne : ¬ chk t = 0 := by simpa using hne
      refine ⟨by unfold tRead; rw [ht]; simp only; rw [if_neg hne], ?_, (f8.step f11).trans ev12.fr (fun y hy => .inr (by simp at hy; omega))⟩
      unfold tRead; rw [ht]; simp only; rw [if_neg hne]; exact hz _
    · have heq : chk t = 0 := by simpa using heq
      refine ⟨by unfold tRead; rw [ht]; simp only; rw [if_pos heq], ?_, (f8.step f11).trans ev12.fr (fun y hy => .inr (by simp at hy; omega))⟩
      unfold tRead; rw [ht]; simp only; rw [if_pos heq]
      exact RepT.mono (fun b hb => by omega) _ _ (RepT.fr ev12.fr (fun b hb hm => by simp at hm; omega) _ _ hv11)
end Go.Proofs.YtefbonjcpdjhcaaGreatDoor.X

/- Stage 2: the document's reader: lists, funs. -/
set_option linter.unusedVariables false
set_option maxRecDepth 100000
namespace Go.Proofs.YtefbonjcpdjhcaaGreatDoor.X
open Go Go.RowKit

theorem two_ge {L a b : Nat} (ha : L ≤ a) (hb : L ≤ b) : ∀ x ∈ [a, b], L ≤ x := fun x hx => by simp at hx; omega
theorem ev2 {p : Nat} {h h1 h2 : Hp} {O : List Nat} (f : Fr [p] h h1) (e : Ev O h1 h2) (hO : ∀ y ∈ O, h.size ≤ y) : Fr [p] h h2 := f.trans e.fr (fun y hy => .inr (hO y hy))
theorem fun_ok {h : Hp} {p : Nat} {s : Str} {i k : Nat} (hT : RTermC k) (r : Rdr h p s i false) (hs : Small s) (hi : i ≤ s.length) (hk : (s.drop i).length ≤ k) (hpre : ([35, 70, 117, 110, 60] : Str).isPrefixOf (s.drop i) = true) (X : Chain → Hp → Prop) :
    F_tenureref05_reader_fun.call (some ⟨p, 0, none⟩) h (fun v h' => Fr [p] h h' ∧ RRes p s h.size h' v (gFunW qAny RM ((s.drop i).drop 5))) X := by
  refine F_tenureref05_reader_fun.sound ?_
  unfold F_tenureref05_reader_fun.body
  have hpl := r.lt
  intro p1 h2 hn1 ev1 hL2
  have hn1' := hn1.1
  have hn1'' := hn1.2
  have hp1 : p ≠ p1 := by omega
  have f2 : Fr [p] h h2 := ev1.fr.sub (fun y hy => .inr (by simp at hy; omega))
  have r2 := r.fr ev1.fr (one_not hp1)
  refine F_tenureref05_reader_eat.mono (eat_ok r2 hs (by omega) (by simp) (by simp) _) ?_ fun _ _ h => h
  rintro h3 ⟨f3, hr3⟩
  rw [if_pos (by rw [hpre]; rfl)] at hr3
  obtain ⟨r3, hi3⟩ := hr3
  have hi3 : i + 5 ≤ s.length := hi3
  have r3 : Rdr h3 p s (i + 5) false := r3
  refine ⟨f3.sameOn hL2 (by simp; omega), fun hL3 => ?_⟩
  refine F_tenureref05_reader_number.mono (number_ok r3 hs (by omega) (fun _ => hi3) (by omega) (by omega) _) ?_ fun _ _ h => h
  rintro n h5 ⟨f5, hr5⟩
  rw [if_neg (by simp)] at hr5
  refine ⟨f5.sameOn hL3 (by simp; omega), fun p6 h8 hn6 ev6 hL8 => ?_⟩
  have hn6' := hn6.1
  have hn6'' := hn6.2
  have hs2 := f2.1
  have hs3 := f3.1
  have hs5 := f5.1
  have hs8 := ev6.size
  have hbox : ∀ y ∈ [p6, p1], h.size ≤ y := two_ge (by omega) (by omega)
  have hpb : p ∉ [p6, p1] := by simp; omega
  have f8 : Fr [p] h h8 := ev2 ((f2.same f3).same f5) ev6 hbox
  have so : ∀ {a b : Hp}, Fr [p] a b → LtAll [p6, p1] a → SameOn [p6, p1] a b := fun f hl => f.sameOn hl (by simp; omega)
  rw [gFunW_contA, show (s.drop i).drop 5 = s.drop (i + 5) from by rw [List.drop_drop]]
  cases hn : pNum 0 1073741824 (s.drop (i + 5)) with
  | none =>
    rw [hn] at hr5
    obtain ⟨j, hj, r5⟩ := hr5
    have r8 := r5.fr ev6.fr hpb
    refine F_tenureref05_reader_starts.mono (starts_ok r8 hs hj (by simp) (by simp) _) ?_ fun _ _ h => h
    rintro b _ ⟨rfl, rfl⟩
    refine ⟨fun _ _ => rfl, fun e => (by simp at e), fun _ hL10 => ?_⟩
    refine F_tenureref05_reader_eat.mono (eat_ok r8 hs hj (by simp) (by simp) _) ?_ fun _ _ h => h
    rintro h21 ⟨f21, hr21⟩
    rw [if_neg (by simp)] at hr21
    exact ⟨so f21 hL10, fun h22 ev22 => ⟨ev2 (f8.same f21) ev22 hbox, j, hj, hr21.fr ev22.fr hpb⟩⟩
  | some q =>
    obtain ⟨m, rr⟩ := q
    rw [hn] at hr5
    obtain ⟨j, hj, r5, hd5, rfl⟩ := hr5
    simp only
    have r8 := r5.fr ev6.fr hpb
    refine F_tenureref05_reader_starts.mono (starts_ok r8 hs (by omega) (by simp) (by simp) _) ?_ fun _ _ h => h
    rintro b _ ⟨rfl, rfl⟩
    rw [hd5]
    refine ⟨fun _ _ => rfl, fun hc hL10 => ?_, fun hc hL10 => ?_⟩
    · have hc : ([44] : Str).isPrefixOf rr = true := hc
      rw [if_pos hc]
      refine F_tenureref05_reader_eat.mono (eat_ok r8 hs (by omega) (by simp) (by simp) _) ?_ fun _ _ h => h
      rintro h11 ⟨f11, hr11⟩
      rw [if_pos (by rw [hd5]; exact hc)] at hr11
      obtain ⟨r11, hj11⟩ := hr11
      have r11 : Rdr h11 p s (j + 1) false := r11
      have hj11 : j + 1 ≤ s.length := hj11
      refine ⟨so f11 hL10, fun hL11 => ?_⟩
      have hd11 : s.drop (j + 1) = rr.drop 1 := by rw [← hd5, List.drop_drop]
      have hlt : (s.drop (j + 1)).length < k := by
        have h1 := pNum_len hn
        rw [← hd5, List.length_drop, List.length_drop] at h1
        rw [List.length_drop] at hk ⊢
        omega
      refine F_tenureref05_reader_among.mono (among_ok hT r11 hs hj11 hlt (by decide) _) ?_ fun _ _ h => h
      rintro x h13 ⟨f13, hrow⟩
      rw [gAllW_contA, hd11] at hrow
      refine ⟨so f13 hL11, fun h14 ev14 => ?_⟩
      have f14 : Fr [p] h h14 := ev2 ((f8.same f11).same f13) ev14 hbox
      have hs11 := f11.1
      have hs13 := f13.1
      have hs14 := ev14.size
      -- what comes of it
      have hfin : ∀ {g : Hp}, Fr [p] h g → h14.size ≤ g.size → ((contA [62] (rr.drop 1) = none ∧ ∃ j, j ≤ s.length + 1 ∧ Rdr g p s j true) ∨ (∃ l r', contA [62] (rr.drop 1) = some (l, r') ∧ ∃ j, j ≤ s.length ∧ Rdr g p s j false ∧ s.drop j = r' ∧ ∃ vs, RepS tc g (fun b => h11.size ≤ b) x vs ∧ RepL g (fun b => h11.size ≤ b) vs l)) →
          ∀ h20, Ev [p6, p1] g h20 → Fr [p] h h20 ∧ RRes p s h.size h20 ⟨5, n, [], x⟩ ((contA [62] (rr.drop 1)).map fun q => (.mk 5 n [] q.1, q.2)) := by
        intro g fg hsg hor h20 ev20
        refine ⟨ev2 fg ev20 hbox, ?_⟩
        rcases hor with ⟨hno, j2, hj2, rg⟩ | ⟨l, r', hc2, j2, hj2, rg, hd2, vs, hv1, hv2⟩
        · rw [hno]; exact ⟨j2, hj2, rg.fr ev20.fr hpb⟩
        · rw [hc2]
          have hne : ∀ b, h11.size ≤ b → b ∉ [p6, p1] := fun b hb hm => by simp at hm; omega
          exact ⟨j2, hj2, rg.fr ev20.fr hpb, hd2, rfl, rfl, rfl, vs, (hv1.fr ev20.fr hne).mono (fun b hb => by omega), RepL.mono (fun b hb => by omega) _ _ (RepL.fr ev20.fr hne _ _ hv2)⟩
      have hne14 : ∀ b, h11.size ≤ b → b ∉ [p6, p1] := fun b hb hm => by simp at hm; omega
      refine ⟨fun _ g => Fr [p] h g ∧ h14.size ≤ g.size ∧ ((contA [62] (rr.drop 1) = none ∧ ∃ j, j ≤ s.length + 1 ∧ Rdr g p s j true) ∨ (∃ l r', contA [62] (rr.drop 1) = some (l, r') ∧ ∃ j, j ≤ s.length ∧ Rdr g p s j false ∧ s.drop j = r' ∧ ∃ vs, RepS tc g (fun b => h11.size ≤ b) x vs ∧ RepL g (fun b => h11.size ≤ b) vs l)), ⟨fun h0 => ?_, fun h0 => ?_⟩, ?_⟩
      · -- none were taken along
        have hx0 : x.len = 0 := by simpa using h0
        have hnone : contA [62] (rr.drop 1) = none := by
          by_cases hp : ([62] : Str).isPrefixOf (rr.drop 1) = true
          · obtain ⟨r', hr'⟩ := (isPrefixOf_one _ _).1 hp
            rw [hr']; unfold contA; rw [contM_none RT_gt]
          · rw [if_neg hp] at hrow
            cases hcc : contA [62] (rr.drop 1) with
            | none => rfl
            | some y =>
              exfalso
              obtain ⟨l, r'⟩ := y
              rw [hcc] at hrow
              obtain ⟨j2, hj2, rg, hd2, vs, hv1, hv2⟩ := hrow
              have h1 := RepL.length _ _ hv2
              have h2 := hv1.1
              unfold contA contM at hcc
              split at hcc
              · cases hcc
              · rename_i l2 r2 hm
                split at hm
                · cases hm
                · obtain ⟨y, _, hy⟩ := map_some.1 hm
                  injection hy with hy _
                  split at hcc
                  · injection hcc with hcc; injection hcc with hcc _
                    rw [← hcc, ← hy] at h1
                    have h1 : vs.length = y.1.length + 1 := h1
                    omega
                  · cases hcc
        obtain ⟨j2, hj2, b2, rg⟩ : ∃ j2, j2 ≤ s.length + 1 ∧ ∃ b2, Rdr h13 p s j2 b2 := by
          split at hrow
          · obtain ⟨j2, hj2, rg, _⟩ := hrow
            exact ⟨j2, by omega, _, rg⟩
          · rw [hnone] at hrow
            obtain ⟨j2, hj2, rg⟩ := hrow
            exact ⟨j2, hj2, _, rg⟩
        have rg14 := rg.fr ev14.fr hpb
        refine ⟨_, rfl, rg14.stb, fun h19 e19 => ?_⟩
        have hr := rg14.set e19
        refine ⟨fun q hq => hr.2.2 q (by simp at hq; omega) (by simp at hq ⊢; omega), f14.same hr.2, hr.2.1, .inl ⟨hnone, j2, hj2, hr.1⟩⟩
      · have hx0 : ¬ x.len = 0 := by simpa using h0
        refine ⟨f14, Nat.le_refl _, ?_⟩
        have hp : ¬ ([62] : Str).isPrefixOf (rr.drop 1) = true := by
          intro hp
          rw [if_pos hp] at hrow
          obtain ⟨_, _, _, _, vs, hv1, hv2⟩ := hrow
          have h1 := RepL.length _ _ hv2
          have h2 := hv1.1
          have h1 : vs.length = 0 := h1
          omega
        rw [if_neg hp] at hrow
        cases hcc : contA [62] (rr.drop 1) with
        | none =>
          rw [hcc] at hrow
          obtain ⟨j2, hj2, rg⟩ := hrow
          exact .inl ⟨rfl, j2, hj2, rg.fr ev14.fr hpb⟩
        | some y =>
          obtain ⟨l, r'⟩ := y
          rw [hcc] at hrow
          obtain ⟨j2, hj2, rg, hd2, vs, hv1, hv2⟩ := hrow
          exact .inr ⟨l, r', rfl, j2, hj2, rg.fr ev14.fr hpb, hd2, vs, hv1.fr ev14.fr hne14, RepL.fr ev14.fr hne14 _ _ hv2⟩
      · rintro _ g ⟨fg, hsg, hor⟩
        exact hfin fg hsg hor
    · have hc : ¬ ([44] : Str).isPrefixOf rr = true := by
        have hc2 : ([44] : Str).isPrefixOf rr = false := hc
        rw [hc2]; exact Bool.false_ne_true
      rw [if_neg hc]
      refine F_tenureref05_reader_eat.mono (eat_ok r8 hs (by omega) (by simp) (by simp) _) ?_ fun _ _ h => h
      rintro h21 ⟨f21, hr21⟩
      refine ⟨so f21 hL10, fun h22 ev22 => ⟨ev2 (f8.same f21) ev22 hbox, ?_⟩⟩
      rw [hd5] at hr21
      by_cases hg : ([62] : Str).isPrefixOf rr = true
      · rw [if_pos (by rw [hg]; rfl)] at hr21
        rw [if_pos hg]
        exact ⟨j + 1, hr21.2, hr21.1.fr ev22.fr hpb, by rw [← hd5, List.drop_drop], rfl, rfl, rfl, [], RepS.nil, trivial⟩
      · rw [if_neg (by simpa using hg)] at hr21
        rw [if_neg hg]
        exact ⟨j, by omega, hr21.fr ev22.fr hpb⟩

/-! ### Lists -/
theorem pListW_contM (r : Str) : pListW RT RM r = if ([93] : Str).isPrefixOf r = true then some (nilT, r.drop 1) else match contM r with
    | none => none
    | some (l, r2) => match pTailW RT r2 with
      | none => none
      | some (tl, r3) => if ([93] : Str).isPrefixOf r3 = true then some (mkList l tl, r3.drop 1) else none := by
  unfold pListW contM
  refine ite2 (fun _ => rfl) fun _ => ?_
  cases RT r with
  | none => rfl
  | some x =>
    obtain ⟨t, r1⟩ := x
    simp only
    cases RM r1 with
    | none => rfl
    | some y => rfl
theorem list_ok {h : Hp} {p : Nat} {s : Str} {i k : Nat} (hT : RTermC k) (r : Rdr h p s i false) (hs : Small s) (hi : i ≤ s.length) (hk : (s.drop i).length ≤ k) (hpre : ([91] : Str).isPrefixOf (s.drop i) = true) (X : Chain → Hp → Prop) :
    F_tenureref05_reader_list.call (some ⟨p, 0, none⟩) h (fun v h' => Fr [p] h h' ∧ RRes p s h.size h' v (pListW RT RM ((s.drop i).drop 1))) X := by
  refine F_tenureref05_reader_list.sound ?_
  unfold F_tenureref05_reader_list.body
  have hpl := r.lt
  have hsm : s.length ≤ 1048576 := hs
  intro p1 p3 h5 hn1 hn3 ev5 hL5
  have hn1' := hn1.1
  have hn3' := hn3.1
  have hn1'' := hn1.2
  have hn3'' := hn3.2
  have hbox : ∀ y ∈ [p3, p1], h.size ≤ y := two_ge (by omega) (by omega)
  have hbox5 : ∀ y ∈ [p3, p1], y < h5.size := fun y hy => by simp at hy; omega
  have hpb : p ∉ [p3, p1] := by simp; omega
  have f5 : Fr [p] h h5 := ev5.fr.sub (fun y hy => .inr (hbox y hy))
  have so : ∀ {a b : Hp}, Fr [p] a b → LtAll [p3, p1] a → SameOn [p3, p1] a b := fun f hl => f.sameOn hl (by simp; omega)
  have r5 := r.fr ev5.fr hpb
  have hs5 := f5.1
  refine F_tenureref05_reader_eat.mono (eat_ok r5 hs (by omega) (by simp) (by simp) _) ?_ fun _ _ h => h
  rintro h6 ⟨f6, hr6⟩
  rw [if_pos (by rw [hpre]; rfl)] at hr6
  obtain ⟨r6, hi6⟩ := hr6
  have r6 : Rdr h6 p s (i + 1) false := r6
  have hi6 : i + 1 ≤ s.length := hi6
  have hs6 := f6.1
  have f06 := f5.same f6
  have hd6 : (s.drop i).drop 1 = s.drop (i + 1) := by rw [List.drop_drop]
  rw [hd6, pListW_contM]
  refine ⟨so f6 hL5, fun hL6 => ?_⟩
  refine F_tenureref05_reader_starts.mono (starts_ok r6 hs (by omega) (by simp) (by simp) _) ?_ fun _ _ h => h
  rintro b _ ⟨rfl, rfl⟩
  refine ⟨fun _ _ => rfl, fun hc hL8 => ?_, fun hc => ?_⟩
  · have hc' : ([93] : Str).isPrefixOf (s.drop (i + 1)) = true := hc
    rw [if_pos hc']
    refine F_tenureref05_reader_eat.mono (eat_ok r6 hs (by omega) (by simp) (by simp) _) ?_ fun _ _ h => h
    rintro h9 ⟨f9, hr9⟩
    rw [if_pos (by rw [hc']; rfl)] at hr9
    exact ⟨so f9 hL8, fun h10 ev10 => ⟨ev2 (f06.same f9) ev10 hbox, i + 2, hr9.2, hr9.1.fr ev10.fr hpb, by rw [List.drop_drop], rfl, rfl, rfl, [], RepS.nil, trivial⟩⟩
  · have hc' : ¬ ([93] : Str).isPrefixOf (s.drop (i + 1)) = true := by
      have hc2 : ([93] : Str).isPrefixOf (s.drop (i + 1)) = false := hc
      rw [hc2]; exact Bool.false_ne_true
    rw [if_neg hc']
    have hk1 : (s.drop (i + 1)).length < k := by
      rw [List.length_drop] at hk ⊢; omega
    generalize hi1 : i + 1 = i1 at *
    clear hi1
    refine ⟨fun x g => ∃ O vs, Rw h6.size p s g x O vs ∧ Fr [p] h g ∧ h6.size ≤ g.size ∧ vs.length ≤ 1048577 ∧ ((∃ j, j ≤ s.length + 1 ∧ Rdr g p s j true ∧ contM (s.drop i1) = none) ∨
        (∃ ts j, j ≤ s.length ∧ Rdr g p s j false ∧ RepL g (fun b => h6.size ≤ b ∧ b ∉ O) vs ts ∧ contM (s.drop i1) = some (ts, s.drop j) ∧ (s.drop j).length < k)), ?_, ?_⟩
    · refine ⟨fun x g => ∃ O vs ts j, Rw h6.size p s g x O vs ∧ Fr [p] h g ∧ i1 ≤ j ∧ j ≤ s.length ∧ vs.length ≤ j ∧ Rdr g p s j false ∧ RepL g (fun b => h6.size ≤ b ∧ b ∉ O) vs ts ∧ contM (s.drop i1) = (contM (s.drop j)).map fun q => (ts ++ q.1, q.2),
        fun _ g => s.length + 1 - posOf g p, ⟨[], [], [], i1, ⟨by simp, by simp, Nat.le_refl _, rfl, rfl⟩, f06, Nat.le_refl _, hi6, by simp, r6, trivial, map_app_nil _⟩, ?_⟩
      rintro x g ⟨O, vs, ts, j, hw, fg, hij, hj, hvj, rg, hr, hov⟩
      have hfg := fg.1
      have hle := hw.le
      refine ⟨_, rfl, false, rg.bad, fun _ hLg => ?_, fun e => (by cases e)⟩
      have hlj : (s.drop j).length < k := by rw [List.length_drop] at hk1 ⊢; omega
      refine F_tenureref05_reader_term.mono (hT g p s j X rg hs hj hlj) ?_ fun _ _ h => h
      rintro v g11 ⟨f11, hres⟩
      have hs11 := f11.1
      have hpg := rg.lt
      have hw11 := hw.fr f11 (fun y hy => .inr (by simpa using hy))
      have hr11 : RepL g11 (fun b => h6.size ≤ b ∧ b ∉ O) vs ts := by
        refine RepL.mono (fun b hb => hb.1) _ _ (RepL.fr f11 (fun b hb hm => ?_) _ _ (RepL.bound _ _ hr))
        have := r6.lt
        simp at hm; omega
      refine ⟨so f11 hLg, ?_⟩
      intro p12 h13 hp12 e13
      refine hw11.app (by omega) hp12 e13 (by omega) fun x' g15 O' hw15 f15 hs15 => ?_
      have hs15' := f15.1
      have fg15 : Fr [p] h g15 := (fg.same f11).trans f15 (fun y hy => .inr (by have := (hw11.low y hy).1; omega))
      have hpO : p ∉ O := fun hm => (hw11.low _ hm).2 rfl
      have hbO : ∀ y ∈ [p3, p1], y ∉ O := fun y hy hm => by have := hw11.low y hm; have := hbox5 y hy; omega
      have f13 := Fr.push e13
      have hso : SameOn [p3, p1] h13 g15 := fun y hy => by
        have hyl := hbox5 y hy
        rw [f15.2 y (by omega) (hbO y hy), f13.2 y (by omega) (by simp)]
      have hg15L : ∀ y ∈ [p3, p1], y < g15.size := fun y hy => by have := hbox5 y hy; omega
      refine ⟨hso, fun hL15 => ?_⟩
      cases ht : RT (s.drop j) with
      | none =>
        rw [ht] at hres
        obtain ⟨j1, hj1, rb⟩ := hres
        have r15 := rb.fr f15 hpO
        refine F_tenureref05_reader_starts.mono (starts_ok r15 hs hj1 (by simp) (by simp) _) ?_ fun _ _ h => h
        rintro b _ ⟨rfl, rfl⟩
        refine ⟨fun _ _ => rfl, fun _ => ⟨O', _, hw15, fg15, by omega, by simp; omega, .inl ⟨j1, hj1, r15, by rw [hov, contM_none ht]; rfl⟩⟩, fun e => (by simp at e)⟩
      | some tr =>
        obtain ⟨t, r1⟩ := tr
        rw [ht] at hres
        obtain ⟨j1, hj1, rgd, hd1, hv⟩ := hres
        have hlen1 := GT_len _ _ _ _ ht
        have hjj : j < j1 := by
          rw [← hd1, List.length_drop, List.length_drop] at hlen1
          omega
        have r15 := rgd.fr f15 hpO
        have hv' : RepT g11 (fun b => h6.size ≤ b ∧ b ∉ O) v t := RepT.mono (fun b hb => ⟨by omega, fun hm => by have := hw.ltO b hm; omega⟩) _ _ hv
        have hr15 := reps_app hr11 hv' f15 hs15
        refine F_tenureref05_reader_starts.mono (starts_ok r15 hs (by omega) (by simp) (by simp) _) ?_ fun _ _ h => h
        rintro b _ ⟨rfl, rfl⟩
        rw [hd1]
        refine ⟨fun _ _ => rfl, fun he => ?_, fun he hL27 => ?_⟩
        · have he' : ¬ ([44] : Str).isPrefixOf r1 = true := by
            have he2 : (!(([44] : Str).isPrefixOf r1)) = true := he
            intro h; rw [h] at he2; cases he2
          refine ⟨O', _, hw15, fg15, by omega, by simp; omega, .inr ⟨ts ++ [t], j1, hj1, r15, hr15, ?_, by rw [List.length_drop] at hlj ⊢; omega⟩⟩
          rw [hov, contM_end ht he', ← hd1]; rfl
        · have he' : ([44] : Str).isPrefixOf r1 = true := by
            have he2 : (!(([44] : Str).isPrefixOf r1)) = false := he
            cases h : ([44] : Str).isPrefixOf r1 with
            | true => rfl
            | false => rw [h] at he2; cases he2
          refine F_tenureref05_reader_eat.mono (eat_ok r15 hs (by omega) (by simp) (by simp) _) ?_ fun _ _ h => h
          rintro h19 ⟨f19, hr19⟩
          rw [hd1, if_pos (by rw [he']; rfl)] at hr19
          have hd2 : s.drop (j1 + 1) = r1.drop 1 := by rw [← hd1, List.drop_drop]
          refine ⟨so f19 hL27, ⟨O', _, ts ++ [t], j1 + 1, hw15.fr f19 (fun y hy => .inr (by simpa using hy)), fg15.same f19, by omega, hr19.2, by simp; omega, hr19.1, ?_, ?_⟩, ?_⟩
          · refine RepL.mono (fun b hb => hb.1) _ _ (RepL.fr f19 (fun b hb hm => ?_) _ _ (RepL.bound _ _ hr15))
            have := r6.lt
            simp at hm; omega
          · rw [hov, hd2, contM_more ht he', Option.map_map]
            congr 1
            funext q
            simp
          · show s.length + 1 - posOf h19 p < s.length + 1 - posOf g p
            rw [show posOf h19 p = j1 + 1 from hr19.1.posOf, rg.posOf]; omega
    · rintro x g ⟨O, vs, hw, fg, hsg, hvl, hor⟩
      have hfg := fg.1
      have hp6 := r6.lt
      -- the tail
      refine ⟨fun w g' => Fr [p] h g' ∧ h6.size ≤ g'.size ∧ ∃ O vs, Rw h6.size p s g' x O vs ∧ vs.length ≤ 1048577 ∧ ((∃ j, j ≤ s.length + 1 ∧ Rdr g' p s j true ∧ (contM (s.drop i1) = none ∨ ∃ l r2, contM (s.drop i1) = some (l, r2) ∧ pTailW RT r2 = none)) ∨
          (∃ ts r2 tl j, j ≤ s.length ∧ Rdr g' p s j false ∧ RepL g' (fun b => h6.size ≤ b) vs ts ∧ RepT g' (fun b => h6.size ≤ b) w tl ∧ contM (s.drop i1) = some (ts, r2) ∧ pTailW RT r2 = some (tl, s.drop j))), fun hLg => ?_, ?_⟩
      · rcases hor with ⟨j, hj, rg, hno⟩ | ⟨ts, j, hj, rg, hr, hcm, hlk⟩
        · refine F_tenureref05_reader_starts.mono (starts_ok rg hs hj (by simp) (by simp) _) ?_ fun _ _ h => h
          rintro b _ ⟨rfl, rfl⟩
          exact ⟨fun _ _ => rfl, fun e => (by simp at e), fun _ => ⟨fg, hsg, O, vs, hw, hvl, .inl ⟨j, hj, rg, .inl hno⟩⟩⟩
        · refine F_tenureref05_reader_starts.mono (starts_ok rg hs (by omega) (by simp) (by simp) _) ?_ fun _ _ h => h
          rintro b _ ⟨rfl, rfl⟩
          refine ⟨fun _ _ => rfl, fun hb hL33 => ?_, fun hb => ?_⟩
          · have hb : ([124] : Str).isPrefixOf (s.drop j) = true := hb
            refine F_tenureref05_reader_eat.mono (eat_ok rg hs (by omega) (by simp) (by simp) _) ?_ fun _ _ h => h
            rintro h34 ⟨f34, hr34⟩
            rw [if_pos (by rw [hb]; rfl)] at hr34
            obtain ⟨r34, hj34⟩ := hr34
            have r34 : Rdr h34 p s (j + 1) false := r34
            have hj34 : j + 1 ≤ s.length := hj34
            refine ⟨so f34 hL33, fun hL34 => ?_⟩
            have hlk2 : (s.drop (j + 1)).length < k := by rw [List.length_drop] at hlk ⊢; omega
            refine F_tenureref05_reader_term.mono (hT h34 p s (j + 1) X r34 hs hj34 hlk2) ?_ fun _ _ h => h
            rintro w h36 ⟨f36, hres⟩
            have f36' := (fg.same f34).same f36
            have hs34 := f34.1
            have hs36 := f36.1
            have htail : pTailW RT (s.drop j) = match RT (s.drop (j + 1)) with
                | none => none
                | some (t, r1) => if t.kind = 9 ∨ t.kind = 8 then none else some (t, r1) := by
              unfold pTailW; rw [if_pos hb, List.drop_drop]; all_goals cases RT (s.drop (j + 1)) <;> rfl
            have hw36 := (hw.fr f34 (fun y hy => .inr (by simpa using hy))).fr f36 (fun y hy => .inr (by simpa using hy))
            have hr36 : RepL h36 (fun b => h6.size ≤ b) vs ts := by
              refine RepL.mono (fun b hb => hb.1.1) _ _ (RepL.fr (f34.same f36) (fun b hb hm => ?_) _ _ (RepL.bound _ _ hr))
              simp at hm; omega
            refine ⟨so f36 hL34, fun hkd => ?_, fun hkd => ?_⟩
            · refine ⟨_, rfl, fun h37 ev37 => ?_⟩
              have hne : ∀ y ∈ [p3, p1], y < h6.size := fun y hy => by have := hbox5 y hy; omega
              have hw37 := hw36.fr ev37.fr (fun y hy => .inl (hne y hy))
              obtain ⟨j2, b2, hj2, r36, hnone⟩ : ∃ j2 b2, j2 ≤ s.length + 1 ∧ Rdr h36 p s j2 b2 ∧ pTailW RT (s.drop j) = none := by
                rw [htail]
                cases ht : RT (s.drop (j + 1)) with
                | none => rw [ht] at hres; obtain ⟨j2, hj2, r⟩ := hres; exact ⟨j2, _, hj2, r, rfl⟩
                | some y =>
                  obtain ⟨t, r1⟩ := y
                  rw [ht] at hres
                  obtain ⟨j2, hj2, r, hd, hrt⟩ := hres
                  refine ⟨j2, _, by omega, r, ?_⟩
                  simp only
                  rw [if_pos]
                  have hk8 : w.Kind = t.kind := hrt.fields.1
                  rw [hk8] at hkd
                  simp at hkd
                  omega
              have r37 := r36.fr ev37.fr hpb
              refine ⟨r37.stb, fun h40 e40 => ?_⟩
              have hr := r37.set e40
              have hs37 := ev37.size
              refine ⟨fun q hq => hr.2.2 q (by have := hne q hq; omega) (by simp at hq ⊢; omega), (ev2 f36' ev37 hbox).same hr.2, by have := hr.2.1; omega, O, vs, hw37.fr hr.2 (fun y hy => .inr (by simpa using hy)), hvl, .inl ⟨j2, hj2, hr.1, .inr ⟨ts, s.drop j, hcm, hnone⟩⟩⟩
            · intro h37 ev37
              have hne : ∀ y ∈ [p3, p1], y < h6.size := fun y hy => by have := hbox5 y hy; omega
              have hw37 := hw36.fr ev37.fr (fun y hy => .inl (hne y hy))
              have hs37 := ev37.size
              refine ⟨ev2 f36' ev37 hbox, by omega, O, vs, hw37, hvl, ?_⟩
              cases ht : RT (s.drop (j + 1)) with
              | none =>
                rw [ht] at hres htail
                obtain ⟨j2, hj2, r⟩ := hres
                exact .inl ⟨j2, hj2, r.fr ev37.fr hpb, .inr ⟨ts, s.drop j, hcm, htail⟩⟩
              | some y =>
                obtain ⟨t, r1⟩ := y
                rw [ht] at hres htail
                obtain ⟨j2, hj2, r, hd, hrt⟩ := hres
                have hk8 : w.Kind = t.kind := hrt.fields.1
                rw [hk8] at hkd
                simp at hkd
                simp only at htail
                rw [if_neg (by omega)] at htail
                refine .inr ⟨ts, s.drop j, t, j2, hj2, r.fr ev37.fr hpb, RepL.fr ev37.fr (fun b hb hm => by have := hne b hm; omega) _ _ hr36, ?_, hcm, by rw [htail, hd]⟩
                exact RepT.mono (fun b hb => by omega) _ _ (RepT.fr ev37.fr (fun b hb hm => by have := hne b hm; omega) _ _ hrt)
          · have hb : ¬ ([124] : Str).isPrefixOf (s.drop j) = true := by
              have hb2 : ([124] : Str).isPrefixOf (s.drop j) = false := hb
              rw [hb2]; exact Bool.false_ne_true
            refine ⟨fg, hsg, O, vs, hw, hvl, .inr ⟨ts, s.drop j, nilT, j, hj, rg, RepL.mono (fun b hb => hb.1) _ _ hr, ⟨rfl, rfl, rfl, [], RepS.nil, trivial⟩, hcm, ?_⟩⟩
            unfold pTailW; rw [if_neg hb]
      · rintro w g' ⟨fg', hsg', O', vs', hw', hvl', hor'⟩ hLg'
        have hne : ∀ y ∈ [p3, p1], y < h6.size := fun y hy => by have := hbox5 y hy; omega
        obtain ⟨j, b, hj, hjb, rg'⟩ : ∃ j b, j ≤ s.length + 1 ∧ (b = false → j ≤ s.length) ∧ Rdr g' p s j b := by
          rcases hor' with ⟨j, hj, rg, _⟩ | ⟨_, _, _, j, hj, rg, _⟩
          · exact ⟨j, true, hj, (fun e => by cases e), rg⟩
          · exact ⟨j, false, by omega, (fun _ => hj), rg⟩
        refine F_tenureref05_reader_eat.mono (eat_ok rg' hs hj (by simp) (by simp) _) ?_ fun _ _ h => h
        rintro h41 ⟨f41, hr41⟩
        refine ⟨so f41 hLg', fun hL41 => ?_⟩
        have hw41 := hw'.fr f41 (fun y hy => .inr (by simpa using hy))
        have hs41 := f41.1
        have hrow : RepS tc h41 (fun b => h6.size ≤ b ∧ b < h41.size) x vs' := (hw41.sl.rep (P := fun b => h6.size ≤ b ∧ b < h41.size) (fun b hb => ⟨(hw41.low b hb).1, hw41.ltO b hb⟩))
        refine F_tenureref02_MakeList.mono (MakeList02_ok hvl' (fun b hb => hb.2) hrow _) ?_ fun _ _ h => h
        rintro v h43 ⟨f43, hmk⟩
        refine ⟨f43.sameOn hL41 (by simp), fun h44 ev44 => ?_⟩
        have hs43 := f43.1
        have f44 : Fr [p] h h44 := ev2 ((fg'.same f41).step f43) ev44 hbox
        refine ⟨f44, ?_⟩
        have hnep : ∀ y ∈ [p], y < h6.size := fun y hy => by simp at hy; omega
        rcases hor' with ⟨j', hj', rb, hno⟩ | ⟨ts, r2, tl, j', hj', rgd, hrl, hrt, hcm, htl⟩
        · have hjj : j = j' ∧ b = true := by
            have h1 := rg'.posOf
            have h2 := rb.posOf
            have h3 := rg'.badOf
            have h4 := rb.badOf
            exact ⟨by omega, by rw [← h3, h4]⟩
          obtain ⟨rfl, rfl⟩ := hjj
          rw [if_neg (by simp)] at hr41
          have r44 := (hr41.fr f43 (by simp)).fr ev44.fr hpb
          rcases hno with hno | ⟨l, r2, h1, h2⟩
          · rw [hno]; exact ⟨j, hj', r44⟩
          · rw [h1]; simp only; rw [h2]; exact ⟨j, hj', r44⟩
        · have hjj : j = j' ∧ b = false := by
            have h1 := rg'.posOf
            have h2 := rgd.posOf
            have h3 := rg'.badOf
            have h4 := rgd.badOf
            exact ⟨by omega, by rw [← h3, h4]⟩
          obtain ⟨rfl, rfl⟩ := hjj
          rw [hcm]; simp only; rw [htl]; simp only
          by_cases he : ([93] : Str).isPrefixOf (s.drop j) = true
          · rw [if_pos (by rw [he]; rfl)] at hr41
            rw [if_pos he]
            have r44 := (hr41.1.fr f43 (by simp)).fr ev44.fr hpb
            refine ⟨j + 1, hr41.2, r44, by rw [List.drop_drop], ?_⟩
            have hrl41 : RepL h41 (fun b => h6.size ≤ b ∧ b < h41.size) vs' ts := RepL.bound _ _ (RepL.fr f41 (fun b hb hm => by have := hnep b hm; omega) _ _ hrl)
            have hrt41 : RepT h41 (fun b => h6.size ≤ b ∧ b < h41.size) w tl := RepT.bound _ _ (RepT.fr f41 (fun b hb hm => by have := hnep b hm; omega) _ _ hrt)
            refine RepT.mono (fun b hb => by omega) _ _ (RepT.fr ev44.fr (fun b hb hm => ?_) _ _ (hmk ts tl hrl41 hrt41))
            have := hne b hm
            omega
          · rw [if_neg (by simpa using he)] at hr41
            rw [if_neg he]
            exact ⟨j, by omega, (hr41.fr f43 (by simp)).fr ev44.fr hpb⟩
end Go.Proofs.YtefbonjcpdjhcaaGreatDoor.X

/- Stage 2: the document's Check. -/
set_option linter.unusedVariables false
set_option maxRecDepth 100000
namespace Go.Proofs.YtefbonjcpdjhcaaGreatDoor.X
open Go Go.RowKit

theorem numbered02_ok (n : Int) (h : Hp) (X : Chain → Hp → Prop) : F_tenureref02_numbered.call n h (fun r h' => r = ((decide (0 ≤ n)) && (decide (n ≤ 1073741824))) ∧ h = h') X := by
  refine F_tenureref02_numbered.sound ?_
  exact ⟨rfl, rfl⟩
theorem own02_ok (t : TV) (h : Hp) (X : Chain → Hp → Prop) : F_tenureref02_own.call t h (fun r h' => r = soundB t.Kind t.N t.S t.L.len ∧ Fr [] h h') X := by
  refine F_tenureref02_own.sound ?_
  unfold F_tenureref02_own.body
  have ev : ∀ {p1 : Nat} {h2 : Hp}, New p1 h h2 → Ev [p1] h h2 → Fr [] h h2 := fun hn he => (Fr.refl [] h).ev he (one_ge hn.1)
  refine ⟨fun h1 p1 h2 hn he => ⟨?_, ev hn he⟩, fun h1 => ⟨fun h2 p1 h2' hn he => ⟨?_, ev hn he⟩, fun h2 p1 h2' hn he => ?_⟩⟩
  · have e1 : t.Kind = 1 := by simpa using h1
    unfold soundB; rw [if_pos e1]; simp [cmpS, ge_iff_le]
  · have e1 : ¬ t.Kind = 1 := by simpa using h1
    have e2 : t.Kind = 2 := by simpa using h2
    unfold soundB; rw [if_neg e1, if_pos e2]
    have : decide ((t.S.length : Int) ≤ 64) = decide (t.S.length ≤ 64) := decide_eq_decide.2 (by omega)
    rw [this]
  · have e1 : ¬ t.Kind = 1 := by simpa using h1
    have e2 : ¬ t.Kind = 2 := by simpa using h2
    have f2 := ev hn he
    refine ⟨fun y g => h2' = g ∧ y = decide (t.Kind = 3 ∨ t.Kind = 4 ∨ t.Kind = 6), ⟨fun h3 => ⟨rfl, ?_⟩, fun h3 => ⟨fun h4 => ⟨rfl, ?_⟩, fun h4 => ⟨rfl, ?_⟩⟩⟩, ?_⟩
    · have : t.Kind = 3 := by simpa using h3
      simp [this]
    · have : t.Kind = 4 := by simpa using h4
      simp [this]
    · have e3 : ¬ t.Kind = 3 := by simpa using h3
      have e4 : ¬ t.Kind = 4 := by simpa using h4
      rw [Bool.eq_iff_iff]; simp [e3, e4]
    · rintro y _ ⟨rfl, rfl⟩
      refine ⟨fun hy hL => ?_, fun hy => ⟨fun h5 hL => ?_, fun h5 => ⟨fun h7 => ⟨?_, f2⟩, fun h7 => ⟨fun h8 => ⟨?_, f2⟩, fun h8 => ⟨fun h9 => ⟨?_, f2⟩, fun h9 => ⟨?_, f2⟩⟩⟩⟩⟩⟩
      · have hy := of_decide_eq_true hy
        refine F_tenureref02_numbered.mono (numbered02_ok _ _ _) ?_ fun _ _ h => h
        rintro r _ ⟨rfl, rfl⟩
        refine ⟨fun _ _ => rfl, ?_, f2⟩
        unfold soundB
        rw [if_neg e1, if_neg e2, if_pos hy]
        simp [cmpS]
      · have hy := of_decide_eq_false hy
        have h5 : t.Kind = 5 := by simpa using h5
        refine F_tenureref02_numbered.mono (numbered02_ok _ _ _) ?_ fun _ _ h => h
        rintro r _ ⟨rfl, rfl⟩
        refine ⟨fun _ _ => rfl, ?_, f2⟩
        unfold soundB
        rw [if_neg e1, if_neg e2, if_neg hy, if_pos h5]
        simp [cmpS]
      · have hy := of_decide_eq_false hy
        have h5 : ¬ t.Kind = 5 := by simpa using h5
        unfold soundB
        rw [if_neg e1, if_neg e2, if_neg hy, if_neg h5, if_pos (by simpa using h7)]; simp [cmpS]
      · have hy := of_decide_eq_false hy
        have h5 : ¬ t.Kind = 5 := by simpa using h5
        unfold soundB
        rw [if_neg e1, if_neg e2, if_neg hy, if_neg h5, if_neg (by simpa using h7), if_pos (by simpa using h8)]; simp [cmpS]
      · have hy := of_decide_eq_false hy
        have h5 : ¬ t.Kind = 5 := by simpa using h5
        unfold soundB
        rw [if_neg e1, if_neg e2, if_neg hy, if_neg h5, if_neg (by simpa using h7), if_neg (by simpa using h8), if_pos (by simpa using h9)]; simp [cmpS]
      · have hy := of_decide_eq_false hy
        have h5 : ¬ t.Kind = 5 := by simpa using h5
        unfold soundB
        rw [if_neg e1, if_neg e2, if_neg hy, if_neg h5, if_neg (by simpa using h7), if_neg (by simpa using h8), if_neg (by simpa using h9)]
theorem RepT.kids {h : Hp} {P : Nat → Prop} {v : TV} {t : Tm} (r : RepT h P v t) : ∃ vs, RepS tc h P v.L vs ∧ RepL h P vs t.l := by
  cases t
  obtain ⟨_, _, _, vs, h4, h5⟩ := r
  exact ⟨vs, h4, h5⟩
theorem preL_get : ∀ (l : List Tm) (i : Nat) (t : Tm), l[i]? = some t → (pre t).length ≤ (preL l).length
  | x :: l, 0, t, h => by simp at h; subst h; simp [preL]
  | x :: l, i + 1, t, h => by
    have := preL_get l i t (by simpa using h)
    simp [preL]; omega
  | [], _, _, h => by simp at h
theorem preL_take_succ {l : List Tm} {i : Nat} {t : Tm} (h : l[i]? = some t) : preL (l.take (i + 1)) = preL (l.take i) ++ pre t := by
  rw [List.take_add_one, h, preL_append]
  simp [preL]
theorem preL_take_sub {l : List Tm} {i : Nat} : ∀ t ∈ preL (l.take i), t ∈ preL l := by
  intro t ht
  have : preL l = preL (l.take i) ++ preL (l.drop i) := by rw [← preL_append, List.take_append_drop]
  rw [this]; exact List.mem_append_left _ ht
theorem parts02_ok : ∀ (n : Nat) (t : Tm), (pre t).length ≤ n → n ≤ 1048576 → ∀ (v : TV) (h : Hp) (P : Nat → Prop) (X : Chain → Hp → Prop), RepT h P v t →
    F_tenureref02_parts.call v h (fun r h' => r = (pre t).all soundT ∧ Fr [] h h') X := by
  intro n
  induction n using Nat.strongRecOn with
  | _ n ih =>
    intro t hn hb v h P X hv
    refine F_tenureref02_parts.sound ?_
    unfold F_tenureref02_parts.body
    intro p1 h2 hn1 ev1 hL2
    have hn1' := hn1.1
    have hv := RepT.bound _ _ hv
    have f2 : Fr [] h h2 := (Fr.refl [] h).ev ev1 (one_ge hn1.1)
    refine F_tenureref02_own.mono (own02_ok _ _ _) ?_ fun _ _ h => h
    rintro r h4 ⟨rfl, f4⟩
    obtain ⟨e1, e2, e3, e4⟩ := hv.fields
    have hsnd : soundB v.Kind v.N v.S v.L.len = soundT t := by unfold soundT; rw [e1, e2, e3, e4]
    rw [hsnd]
    have f04 := f2.step f4
    have hpre : pre t = t :: preL t.l := pre_eq t
    refine ⟨f4.sameOn hL2 (by simp), fun hu => ⟨?_, f04⟩, fun hu => ?_⟩
    · have hu : soundT t = false := by simpa using hu
      rw [hpre]; simp [hu]
    · have hu : soundT t = true := by simpa using hu
      obtain ⟨vs, hvs, hvl⟩ := hv.kids
      have hln := RepL.length _ _ hvl
      have hln2 := hvs.1
      have hpl : (preL t.l).length + 1 ≤ n := by rw [hpre] at hn; simpa using hn
      have hll := preL_len t.l
      refine ⟨fun i g => ∃ k : Nat, i = (k : Int) ∧ k ≤ t.l.length ∧ Fr [] h g ∧ h2.size ≤ g.size ∧ (preL (t.l.take k)).all soundT = true, fun i _ => ((t.l.length : Int) - i).toNat, ⟨0, rfl, by omega, f04, f4.1, by simp [preL]⟩, ?_⟩
      rintro _ g ⟨k, rfl, hk, fg, hsg, hall⟩
      refine ⟨fun hlt => ?_, fun hge => ?_⟩
      · have hlt : k < t.l.length := by omega
        have hvk : vs[k]? = some vs[k] := List.getElem?_eq_getElem (by omega)
        obtain ⟨u, hu', hru⟩ := RepL.get' _ _ k _ hvl hvk
        obtain ⟨a, ha, hc⟩ := (hvs.fr fg (by simp)).get tc_len hvk
        refine IdxW.of (by omega) ha ⟨vs[k], hc, fun hLg => ?_⟩
        have hpu := preL_get _ _ _ hu'
        refine F_tenureref02_parts.mono (ih (pre u).length (by omega) u (Nat.le_refl _) (by omega) _ g _ X (RepT.fr fg (by simp) _ _ hru)) ?_ fun _ _ h => h
        rintro r h13 ⟨rfl, f13⟩
        have f013 := fg.step f13
        refine ⟨f13.sameOn hLg (by simp), fun hno => ⟨?_, f013⟩, fun hyes => ?_⟩
        · have hno : (pre u).all soundT = false := by simpa using hno
          symm
          rw [hpre, List.all_eq_false]
          obtain ⟨w, hw, hws⟩ := List.all_eq_false.1 hno
          refine ⟨w, List.mem_cons_of_mem _ (preL_take_sub (i := k + 1) w ?_), hws⟩
          rw [preL_take_succ hu']; exact List.mem_append_right _ hw
        · have hyes : (pre u).all soundT = true := by simpa using hyes
          rintro x14 hx14
          rw [wrap64 (by omega) (by omega)] at hx14
          subst hx14
          refine ⟨⟨k + 1, by omega, by omega, f013, Nat.le_trans hsg f13.1, ?_⟩, by show ((t.l.length : Int) - ((k : Int) + 1)).toNat < ((t.l.length : Int) - (k : Int)).toNat; omega⟩
          rw [preL_take_succ hu', List.all_append, hall, hyes]; rfl
      · have hkl : k = t.l.length := by omega
        subst hkl
        rw [List.take_length] at hall
        refine ⟨?_, fg⟩
        rw [hpre]
        simp [hu, hall]
theorem wordsL_append (l m : List Tm) : wordsL (l ++ m) = wordsL l + wordsL m := by unfold wordsL; simp
theorem Words02_ok : ∀ (n : Nat) (t : Tm), (pre t).length ≤ n → n ≤ 1048576 → (pre t).all soundT = true → ∀ (v : TV) (h : Hp) (P : Nat → Prop) (X : Chain → Hp → Prop), RepT h P v t →
    F_tenureref02_Words.call v h (fun r h' => r = ((wordsL (pre t) : Nat) : Int) ∧ Fr [] h h') X := by
  intro n
  induction n using Nat.strongRecOn with
  | _ n ih =>
    intro t hn hb hsound v h P X hv
    refine F_tenureref02_Words.sound ?_
    unfold F_tenureref02_Words.body
    intro p1 h2 hn1 ev1
    have hn1' := hn1.1
    have f2 : Fr [] h h2 := (Fr.refl [] h).ev ev1 (one_ge hn1.1)
    obtain ⟨e1, e2, e3, e4⟩ := hv.fields
    have hpre : pre t = t :: preL t.l := pre_eq t
    have hwl : wordsL (pre t) = ownT t + wordsL (preL t.l) := by rw [hpre]; unfold wordsL; simp
    rw [hpre] at hsound
    simp only [List.all_cons, Bool.and_eq_true] at hsound
    obtain ⟨hst, hsl⟩ := hsound
    have hpl : (preL t.l).length + 1 ≤ n := by rw [hpre] at hn; simpa using hn
    have hll := preL_len t.l
    refine ⟨fun x g => h2 = g ∧ x = ((ownT t : Nat) : Int), ⟨fun hc => ⟨rfl, ?_⟩, fun hc => ⟨rfl, ?_⟩⟩, ?_⟩
    · rw [e1] at hc
      simp only [Bool.or_eq_true, beq_iff_eq] at hc
      unfold ownT; rw [if_pos (by omega)]; rfl
    · rw [e1] at hc
      simp only [Bool.or_eq_false_iff, beq_eq_false_iff_ne, ne_eq] at hc
      unfold ownT; rw [if_neg (by omega)]; rfl
    · rintro x _ ⟨rfl, rfl⟩
      refine ⟨fun x g => Fr [] h g ∧ x = ((wordsL (pre t) : Nat) : Int), ⟨fun hc => ?_, fun hc => ⟨f2, ?_⟩⟩, ?_⟩
      · obtain ⟨vs, hvs, hvl⟩ := hv.kids
        have hln := RepL.length _ _ hvl
        have hln2 := hvs.1
        refine ⟨fun s g => ∃ k : Nat, s.2 = (k : Int) ∧ k ≤ t.l.length ∧ Fr [] h g ∧ h2.size ≤ g.size ∧ s.1 = ((ownT t + wordsL (preL (t.l.take k)) : Nat) : Int), fun s _ => ((t.l.length : Int) - s.2).toNat, ⟨0, rfl, by omega, f2, Nat.le_refl _, by simp [preL, wordsL]⟩, ?_⟩
        rintro ⟨_, _⟩ g ⟨k, rfl, hk, fg, hsg, rfl⟩
        simp only
        refine ⟨fun hlt => ?_, fun hge => ?_⟩
        · have hlt : k < t.l.length := by omega
          have hvk : vs[k]? = some vs[k] := List.getElem?_eq_getElem (by omega)
          obtain ⟨u, hu', hru⟩ := RepL.get' _ _ k _ hvl hvk
          obtain ⟨a, ha, hc⟩ := (hvs.fr fg (by simp)).get tc_len hvk
          refine IdxW.of (by omega) ha ⟨vs[k], hc, fun hLg => ?_⟩
          have hpu := preL_get _ _ _ hu'
          have hus : (pre u).all soundT = true := by
            rw [List.all_eq_true]
            intro w hw
            refine List.all_eq_true.1 hsl w (preL_take_sub (i := k + 1) w ?_)
            rw [preL_take_succ hu']; exact List.mem_append_right _ hw
          refine F_tenureref02_Words.mono (ih (pre u).length (by omega) u (Nat.le_refl _) (by omega) hus _ g _ X (RepT.fr fg (by simp) _ _ hru)) ?_ fun _ _ h => h
          rintro r h20 ⟨rfl, f20⟩
          refine ⟨f20.sameOn hLg (by simp), ?_⟩
          rintro x21 hx21 x22 hx22
          have hw1 := wordsL_le (preL (t.l.take k))
          have hw2 := wordsL_le (pre u)
          have hlen : (preL (t.l.take k)).length ≤ (preL t.l).length := by
            have : preL t.l = preL (t.l.take k) ++ preL (t.l.drop k) := by rw [← preL_append, List.take_append_drop]
            rw [this]; simp
          have ho : ownT t ≤ 2 := by unfold ownT; split <;> omega
          rw [wrap64 (by omega) (by omega)] at hx21
          rw [wrap64 (by omega) (by omega)] at hx22
          subst hx21 hx22
          refine ⟨⟨k + 1, by show (k : Int) + 1 = ((k + 1 : Nat) : Int); omega, by omega, fg.step f20, Nat.le_trans hsg f20.1, ?_⟩, by show ((t.l.length : Int) - ((k : Int) + 1)).toNat < ((t.l.length : Int) - (k : Int)).toNat; omega⟩
          rw [preL_take_succ hu', wordsL_append]
          omega
        · have hkl : k = t.l.length := by omega
          subst hkl
          rw [List.take_length]
          exact ⟨fg, by rw [hwl]⟩
      · rw [hwl]
        have hl0 : t.l = [] := by
          rw [e1] at hc
          simp only [Bool.or_eq_false_iff, beq_eq_false_iff_ne, ne_eq] at hc
          unfold soundT soundB at hst
          have hlen0 : ((t.l.length : Int) == 0) = true := by
            split at hst
            · simp only [Bool.and_eq_true] at hst; exact hst.2
            · split at hst
              · simp only [Bool.and_eq_true] at hst; exact hst.2
              · split at hst
                · simp only [Bool.and_eq_true] at hst; exact hst.2
                · split at hst
                  · omega
                  · split at hst
                    · omega
                    · split at hst
                      · simp only [Bool.and_eq_true] at hst; exact hst.2
                      · split at hst
                        · omega
                        · cases hst
          have : t.l.length = 0 := by simpa using hlen0
          exact List.eq_nil_of_length_eq_zero this
        rw [hl0]; simp [preL, wordsL]
      · rintro x g ⟨fg, rfl⟩
        exact ⟨rfl, fg⟩
theorem Check02_ok {h : Hp} {v : TV} {t : Tm} {P : Nat → Prop} (hv : RepT h P v t) (hn : (pre t).length ≤ 1048576) (X : Chain → Hp → Prop) : F_tenureref02_Check.call v h (fun r h' => r = chk t ∧ Fr [] h h') X := by
  refine F_tenureref02_Check.sound ?_
  unfold F_tenureref02_Check.body
  intro p1 h2 hn1 ev1 hL2
  have f2 : Fr [] h h2 := (Fr.refl [] h).ev ev1 (one_ge hn1.1)
  have hv := RepT.bound _ _ hv
  have hn1' := hn1.1
  have hv2 : RepT h2 (fun b => P b ∧ b < h.size) v t := RepT.fr f2 (by simp) _ _ hv
  refine F_tenureref02_parts.mono (parts02_ok _ t hn (Nat.le_refl _) v h2 _ X hv2) ?_ fun _ _ h => h
  rintro r h4 ⟨rfl, f4⟩
  refine ⟨f4.sameOn hL2 (by simp), fun hno => ⟨?_, f2.step f4⟩, fun hyes hL4 => ?_⟩
  · have hno : (pre t).all soundT = false := by simpa using hno
    unfold chk; rw [if_neg (by rw [hno]; simp)]
  · have hyes : (pre t).all soundT = true := by simpa using hyes
    refine F_tenureref02_Words.mono (Words02_ok _ t hn (Nat.le_refl _) hyes v h4 _ X (RepT.fr f4 (by simp) _ _ hv2)) ?_ fun _ _ h => h
    rintro r h6 ⟨rfl, f6⟩
    have f06 := (f2.step f4).step f6
    refine ⟨f6.sameOn hL4 (by simp), fun hgt => ⟨?_, f06⟩, fun hle => ⟨?_, f06⟩⟩
    · unfold chk; rw [if_pos hyes, if_pos (by omega)]
    · unfold chk; rw [if_pos hyes, if_neg (by omega)]
end Go.Proofs.YtefbonjcpdjhcaaGreatDoor.X

/- Stage 2: term.Items, script.number, script.words. -/
set_option linter.unusedVariables false
set_option maxRecDepth 100000
namespace Go.Proofs.YtefbonjcpdjhcaaGreatDoor.X
open Go Go.RowKit

/-- The items of a list that ends with the empty one. -/
def itemsT : Tm → Option (List Tm)
  | .mk k n s [a, b] => if k = 9 then (itemsT b).map (a :: ·) else if k = 8 then some [] else none
  | .mk k n s l => if k = 8 then some [] else none
theorem itemsT_cons (n : Int) (s : Str) (a b : Tm) : itemsT (.mk 9 n s [a, b]) = (itemsT b).map (a :: ·) := by rw [itemsT]; simp
theorem itemsT_end (t : Tm) (h : ¬ (t.kind = 9 ∧ t.l.length = 2)) : itemsT t = if t.kind = 8 then some [] else none := by
  obtain ⟨k, n, s, l⟩ := t
  show itemsT (.mk k n s l) = if k = 8 then some [] else none
  have h : ¬ (k = 9 ∧ l.length = 2) := h
  match l, h with
  | [], _ => rw [itemsT]; simp
  | [a], _ => rw [itemsT]; simp
  | [a, b], h =>
    have : ¬ k = 9 := fun e => h ⟨e, rfl⟩
    rw [itemsT, if_neg this]
  | a :: b :: c :: l, _ => rw [itemsT]; simp
theorem pre_pos (t : Tm) : 1 ≤ (pre t).length := by cases t; simp [pre]
theorem F_term_Items.ok {h : Hp} {v : TV} {t : Tm} {P : Nat → Prop} (hP : ∀ b, P b → b < h.size) (hv : RepT h P v t) (hn : (pre t).length ≤ 1048576) (X : Chain → Hp → Prop) :
    F_term_Items.call v h (fun x ok h' => ok = (itemsT t).isSome ∧ (∀ l, itemsT t = some l → ∃ vs, RepS tc h' (fun b => P b ∨ h.size ≤ b) x vs ∧ RepL h' (fun b => P b ∨ h.size ≤ b) vs l) ∧ Fr [] h h') X := by
  refine F_term_Items.sound ?_
  unfold F_term_Items.body
  intro p1 h2 hn1 ev1
  have hn1' := hn1.1
  have hn1'' := hn1.2
  have f2 : Fr [] h h2 := (Fr.refl [] h).ev ev1 (one_ge hn1.1)
  refine ⟨fun s g => ∃ ts vs O t', O.length ≤ 1 ∧ (∀ y ∈ O, h.size ≤ y ∧ y ≠ p1) ∧ SlG tc 4 24 g s.1 vs O ∧ RepL g P vs ts ∧ RepT g P s.2 t' ∧ ts.length + (pre t').length ≤ (pre t).length ∧
    itemsT t = (itemsT t').map (ts ++ ·) ∧ Fr [] h g ∧ h2.size ≤ g.size, fun s _ => (pre t).length - s.1.len,
    ⟨[], [], [], t, by simp, by simp, ⟨rfl, rfl⟩, trivial, RepT.fr f2 (by simp) _ _ hv, by simp, by simp, f2, Nat.le_refl _⟩, ?_⟩
  rintro ⟨x, u⟩ g ⟨ts, vs, O, t', hO, hOl, hx, hr, hu, hnum, hit, fg, hgs⟩
  simp only at hx hu ⊢
  have hlen := hx.len
  have hvl := RepL.length _ _ hr
  have hpp := pre_pos t'
  obtain ⟨e1, e2, e3, e4⟩ := hu.fields
  have hf1 := fg.1
  refine ⟨fun hc => ?_, fun hc => ?_⟩
  · have hc : t'.kind = 9 ∧ t'.l.length = 2 := by
      rw [e1, e4] at hc
      simp only [Bool.and_eq_true, beq_iff_eq] at hc
      exact ⟨hc.1, by omega⟩
    obtain ⟨k, n, s, l⟩ := t'
    simp only [Tm.kind, Tm.l] at hc
    obtain ⟨rfl, hl2⟩ := hc
    obtain ⟨a, b, rfl⟩ : ∃ a b, l = [a, b] := by
      match l, hl2 with
      | [a, b], _ => exact ⟨a, b, rfl⟩
    obtain ⟨_, _, _, us, hus, hul⟩ := hu
    obtain ⟨va, ha, hva⟩ := RepL.get _ _ 0 a hul rfl
    obtain ⟨vb, hb, hvb⟩ := RepL.get _ _ 1 b hul rfl
    have hull : us.length = 2 := RepL.length _ _ hul
    obtain ⟨a0, ha0, hc0⟩ := hus.get tc_len ha
    refine IdxW.of (i := 0) (by have := hus.1; omega) ha0 ⟨va, hc0, fun p11 h12 hp11 e12 => ?_⟩
    have f12 := Fr.push e12
    have s12 := size_push e12
    have hOg : ∀ y ∈ O, y < g.size := fun y hy => by
      cases O with
      | nil => cases hy
      | cons z O =>
        obtain rfl : O = [] := by simpa using hO
        simp at hy; subst hy; exact hx.lt
    refine AppW.one tc_len tc_one hO (hx.fr f12 (by simp)) (Blk.new hp11 e12) (by omega) (by omega) rfl ?_
    intro x' h14 O' g' hO' f14 hs
    have fg14 : Fr O g h14 := ((Fr.refl O g).step f12).same f14
    have hPO : ∀ b, P b → b ∉ O := fun b hb hm => by have := hP b hb; have := (hOl b hm).1; omega
    have hL1 : p1 < g.size := by omega
    refine ⟨fun q hq => ?_, ?_⟩
    · simp at hq; subst hq
      exact f14.2 _ (by omega) (fun hm => (hOl _ hm).2 rfl)
    · obtain ⟨a1, ha1, hc1⟩ := (hus.fr fg14 hPO).get tc_len hb
      refine IdxW.of (i := 1) (by have := hus.1; omega) ha1 ⟨vb, hc1, fun h18 ev18 => ?_⟩
      have f18 := ev18.fr
      have hO'l : ∀ y ∈ O', h.size ≤ y ∧ y ≠ p1 := fun y hy => by
        rcases hs y hy with h' | h'
        · exact hOl y h'
        · exact ⟨by omega, by omega⟩
      have hPn : ∀ b, P b → b ∉ [p1] := fun b hb => by have := hP b hb; simp; omega
      have hx' := g'.len
      simp at hx'
      have hs14 := fg14.1
      refine ⟨⟨ts ++ [a], vs ++ [va], O', b, hO', hO'l, g'.fr f18 (fun y hy => by simpa using (hO'l y hy).2), ?_, RepT.fr f18 hPn _ _ (RepT.fr fg14 hPO _ _ hvb), ?_, ?_, ?_, Nat.le_trans hgs (Nat.le_trans hs14 f18.1)⟩, ?_⟩
      · exact RepL.append _ _ _ _ (RepL.fr f18 hPn _ _ (RepL.fr fg14 hPO _ _ hr)) ⟨RepT.fr f18 hPn _ _ (RepT.fr fg14 hPO _ _ hva), trivial⟩
      · have := pre_pos a
        simp only [pre, preL, List.length_cons, List.length_append, List.length_nil] at hnum ⊢
        omega
      · rw [hit, itemsT_cons, Option.map_map]
        congr 1
        funext z
        simp
      · exact (fg.trans fg14 (fun y hy => .inr (hOl y hy).1)).trans f18 (fun y hy => .inr (by simp at hy; omega))
      · show (pre t).length - x'.len < (pre t).length - x.len
        simp only [pre, preL, List.length_cons, List.length_append, List.length_nil] at hnum
        omega
  · have hc : ¬ (t'.kind = 9 ∧ t'.l.length = 2) := by
      rintro ⟨h1, h2⟩
      rw [e1, e4, h1, h2] at hc
      simp at hc
    rw [itemsT_end _ hc] at hit
    refine ⟨fun hne => ?_, fun heq => ?_⟩
    · have hne : ¬ t'.kind = 8 := by rw [e1] at hne; simpa using hne
      rw [if_neg hne] at hit
      refine ⟨by rw [hit]; rfl, fun l hl => (by rw [hit] at hl; cases hl), fg⟩
    · have heq : t'.kind = 8 := by rw [e1] at heq; simpa using heq
      rw [if_pos heq] at hit
      refine ⟨by rw [hit]; rfl, fun l hl => ?_, fg⟩
      rw [hit] at hl
      injection hl with hl
      simp at hl
      subst hl
      exact ⟨vs, hx.rep (fun b hb => .inr (hOl b hb).1), RepL.mono (fun b hb => .inl hb) _ _ hr⟩

/-! ### Numbers of lines -/
def numR (s : Str) : Option Int :=
  match numOf s with
  | some n => if 0 ≤ n ∧ n ≤ 1073741824 then some n else none
  | none => none
theorem F_script_number.ok {h : Hp} {s : Str} (g : Gl h) (hs : Small s) (X : Chain → Hp → Prop) :
    F_script_number.call s h (fun n ok h' => ok = (numR s).isSome ∧ (∀ m, numR s = some m → n = m) ∧ Fr [] h h') X := by
  refine F_script_number.sound ?_
  unfold F_script_number.body
  have hsm : s.length ≤ 1048576 := hs
  refine F_strconv_Atoi.mono (atoi_ok g (by omega) _) ?_ fun _ _ h => h
  rintro n e h3 ⟨hA, f3⟩
  have g3 := g.fr f3 (by simp)
  refine JoinW.inl ⟨fun hc => ?_, fun hc => ?_⟩
  · simp only [Bool.and_eq_true, decide_eq_true_eq] at hc
    obtain ⟨⟨he, h0⟩, h1⟩ := hc
    have hen : e = none := by cases e <;> simp at he ⊢
    subst hen
    have hAo : Lib.atoiAll s = .ok n := by
      cases hAe : Lib.atoiAll s with
      | ok v => rw [hAe] at hA; rw [hA.1]
      | range => rw [hAe] at hA; exact absurd rfl hA.1
      | _ => rw [hAe] at hA; exact absurd rfl hA.1
    refine F_strconv_Itoa.mono (itoa_ok g3 (by omega) (by omega) _) ?_ fun _ _ h => h
    rintro it h11 ⟨rfl, f11⟩
    refine ⟨?_, ?_, f3.step f11⟩
    · unfold numR numOf
      rw [hAo]
      by_cases hi : Lib.itoa n = s
      · simp [cmpS, hi, h0, h1]
      · simp [cmpS, hi]
    · intro m hm
      unfold numR numOf at hm
      rw [hAo] at hm
      by_cases hi : Lib.itoa n = s
      · simp [hi, h0, h1] at hm; exact hm
      · simp [hi] at hm
  · have hno : numR s = none := by
      unfold numR numOf
      cases hAe : Lib.atoiAll s with
      | ok v =>
        rw [hAe] at hA
        obtain ⟨rfl, rfl⟩ := hA
        simp only [Option.isNone_none, Bool.true_and] at hc
        by_cases hi : Lib.itoa n = s
        · simp only [hi, if_true]
          rw [if_neg]
          rintro ⟨h0, h1⟩
          simp [h0, h1] at hc
        · simp [hi]
      | range => rfl
      | _ => rfl
    exact ⟨by rw [hno]; rfl, fun m hm => (by rw [hno] at hm; cases hm), f3⟩

/-! ### The words -/
def wordRow : Kvs := [([115, 112, 97, 119, 110], .agg #[.int .i64 1, .bool true, .bool false]), ([115, 116, 101, 112], .agg #[.int .i64 2, .bool false, .bool false]), ([115, 101, 110, 100], .agg #[.int .i64 3, .bool false, .bool true]), ([101, 120, 105, 116], .agg #[.int .i64 4, .bool false, .bool true]), ([99, 111, 108, 108, 101, 99, 116], .agg #[.int .i64 5, .bool false, .bool false]), ([112, 97, 115, 115], .agg #[.int .i64 6, .bool false, .bool false]), ([114, 111, 117, 110, 100], .agg #[.int .i64 7, .bool false, .bool false]), ([114, 117, 110], .agg #[.int .i64 8, .bool false, .bool false]), ([115, 101, 116, 116, 108, 101], .agg #[.int .i64 9, .bool false, .bool false])]
theorem MapPutW.go {h : Hp} {m : Nat} {kvs : Kvs} {key : Str} {v : Value} {L : Nat} {K : Hp → Prop} (hm : MapRep h m kvs) (hL : L ≤ m) (hk : ∀ h1, MapRep h1 m (kvput key v kvs) → h1.size = h.size → (∀ b, b < L → h1[b]? = h[b]?) → K h1) : MapPutW h m key v K :=
  ⟨kvs, hm, fun h1 hs hb hm' => hk h1 hm' hs fun b hlt => hb b (by omega)⟩
theorem F_script_words.ok (h : Hp) (X : Chain → Hp → Prop) : F_script_words.call h (fun m h' => ∃ p, m = some p ∧ MapRep h' p wordRow ∧ h.size ≤ p ∧ Fr [] h h') X := by
  refine F_script_words.sound ?_
  unfold F_script_words.body
  intro p h1 hp e1
  have f1 := Fr.push e1
  have m1 : MapRep h1 p [] := ⟨#[], 0, push_at hp e1, rfl⟩
  refine MapPutW.go (L := p) m1 (Nat.le_refl _) fun h2 m2 s2 b2 => ?_
  refine MapPutW.go (L := p) m2 (Nat.le_refl _) fun h3 m3 s3 b3 => ?_
  refine MapPutW.go (L := p) m3 (Nat.le_refl _) fun h4 m4 s4 b4 => ?_
  refine MapPutW.go (L := p) m4 (Nat.le_refl _) fun h5 m5 s5 b5 => ?_
  refine MapPutW.go (L := p) m5 (Nat.le_refl _) fun h6 m6 s6 b6 => ?_
  refine MapPutW.go (L := p) m6 (Nat.le_refl _) fun h7 m7 s7 b7 => ?_
  refine MapPutW.go (L := p) m7 (Nat.le_refl _) fun h8 m8 s8 b8 => ?_
  refine MapPutW.go (L := p) m8 (Nat.le_refl _) fun h9 m9 s9 b9 => ?_
  refine MapPutW.go (L := p) m9 (Nat.le_refl _) fun h10 m10 s10 b10 => ?_
  have hs1 := f1.1
  refine ⟨p, rfl, m10, by omega, by omega, fun b hb _ => ?_⟩
  rw [b10 b (by omega), b9 b (by omega), b8 b (by omega), b7 b (by omega), b6 b (by omega), b5 b (by omega), b4 b (by omega), b3 b (by omega), b2 b (by omega)]
  exact f1.2 b hb (by simp)
theorem MapRep.fr {h h' : Hp} {m : Nat} {kvs : Kvs} {M : List Nat} (r : MapRep h m kvs) (f : Fr M h h') (hm : m ∉ M) : MapRep h' m kvs := by
  obtain ⟨es, c, h1, h2⟩ := r
  exact ⟨es, c, f.at_ h1 hm, h2⟩
end Go.Proofs.YtefbonjcpdjhcaaGreatDoor.X

/- Stage 2: script.named, script.Parse. -/
set_option linter.unusedVariables false
set_option maxRecDepth 100000
namespace Go.Proofs.YtefbonjcpdjhcaaGreatDoor.X
open Go Go.RowKit

/-! ### What lines say -/
def readT (s : Str) : Option Tm := (tRead s).1
theorem tRead_err {s : Str} (h : (tRead s).2 ≠ 0) : readT s = none := by
  unfold readT
  unfold tRead at h ⊢
  split
  · rfl
  · rename_i t ht
    rw [ht] at h
    simp only at h ⊢
    split
    · rename_i h0; rw [if_pos h0] at h; exact absurd rfl h
    · rfl
theorem tRead_good {s : Str} (h : (tRead s).2 = 0) : ∃ t, readT s = some t ∧ pRead s = some t ∧ chk t = 0 := by
  unfold readT
  unfold tRead at h ⊢
  split at h
  · cases h
  · rename_i t ht
    split at h
    · rename_i h0
      exact ⟨t, by simp [h0], ht, h0⟩
    · rename_i h0; exact absurd h h0
theorem readT_none {s : Str} (h : readT s = none) : (tRead s).2 ≠ 0 := fun e => by
  obtain ⟨t, ht, _⟩ := tRead_good e
  rw [h] at ht; cases ht
theorem readT_some {s : Str} {t : Tm} (h : readT s = some t) : (tRead s).2 = 0 ∧ pRead s = some t ∧ chk t = 0 := by
  by_cases e : (tRead s).2 = 0
  · obtain ⟨u, hu, h2, h3⟩ := tRead_good e
    rw [h] at hu; injection hu with hu; subst hu
    exact ⟨e, h2, h3⟩
  · rw [tRead_err e] at h; cases h
structure Dd where
  kind : Int
  n : Int
  name : Str
  t : Tm
  l : List Tm
def RepD (h : Hp) (P : Nat → Prop) (x : V_api_Deed) (d : Dd) : Prop :=
  x.Kind = d.kind ∧ x.N = d.n ∧ x.Name = d.name ∧ RepT h P x.T d.t ∧ ∃ vs, RepS tc h P x.L vs ∧ RepL h P vs d.l
theorem RepD.fr {h h' : Hp} {P : Nat → Prop} {x : V_api_Deed} {d : Dd} {M : List Nat} (r : RepD h P x d) (f : Fr M h h') (hm : ∀ b, P b → b ∉ M) : RepD h' P x d := by
  obtain ⟨h1, h2, h3, h4, vs, h5, h6⟩ := r
  exact ⟨h1, h2, h3, RepT.fr f hm _ _ h4, vs, h5.fr f hm, RepL.fr f hm _ _ h6⟩
theorem RepD.mono {h : Hp} {P P' : Nat → Prop} {x : V_api_Deed} {d : Dd} (r : RepD h P x d) (hp : ∀ b, P b → P' b) : RepD h P' x d := by
  obtain ⟨h1, h2, h3, h4, vs, h5, h6⟩ := r
  exact ⟨h1, h2, h3, RepT.mono hp _ _ h4, vs, h5.mono hp, RepL.mono hp _ _ h6⟩
def zeroD : Dd := ⟨0, 0, [], zeroT, []⟩
theorem RepT.zero (h : Hp) (P : Nat → Prop) : RepT h P (⟨0, 0, ([] : Str), (⟨none, 0, 0⟩ : Sl)⟩ : V_api_Term) zeroT := ⟨rfl, rfl, rfl, [], RepS.nil, trivial⟩
theorem RepD.zero (h : Hp) (P : Nat → Prop) : RepD h P (⟨0, 0, ([] : Str), (⟨0, 0, ([] : Str), (⟨none, 0, 0⟩ : Sl)⟩ : V_api_Term), (⟨none, 0, 0⟩ : Sl)⟩ : V_api_Deed) zeroD :=
  ⟨rfl, rfl, rfl, RepT.zero _ _, [], RepS.nil, trivial⟩
def namedAt (rest : Str) (i : Nat) : Option (Str × List Tm) :=
  match readT (rest.take i), readT (rest.drop (i + 1)) with
  | some a, some l => if a.kind = 2 then (itemsT l).map fun x => (a.s, x) else none
  | _, _ => none
def nmAt (rest : Str) (i : Nat) : Option (Str × List Tm) := if bt rest (i : Int) = 32 then namedAt rest i else none
def pNamedD (rest : Str) : Option (Str × List Tm) := (List.range rest.length).findSome? (nmAt rest)
theorem findSome_first {α : Type} {f : Nat → Option α} {n i : Nat} {x : α} (hi : i < n) (hb : ∀ j, j < i → f j = none) (hx : f i = some x) : (List.range n).findSome? f = some x := by
  induction n with
  | zero => omega
  | succ n ih =>
    rw [List.range_succ, List.findSome?_append]
    rcases Nat.lt_or_ge i n with h | h
    · rw [ih h]; rfl
    · obtain rfl : i = n := by omega
      have : (List.range i).findSome? f = none := by
        rw [List.findSome?_eq_none_iff]
        exact fun j hj => hb j (List.mem_range.1 hj)
      rw [this]
      simp [hx]
theorem findSome_none {α : Type} {f : Nat → Option α} {n : Nat} (hb : ∀ j, j < n → f j = none) : (List.range n).findSome? f = none := by
  rw [List.findSome?_eq_none_iff]
  exact fun j hj => hb j (List.mem_range.1 hj)
theorem sub_take (s : Str) (i : Nat) : sub s 0 (i : Int) = s.take i := by unfold sub; simp
theorem sub_drop (s : Str) (i : Nat) : sub s (i : Int) (s.length : Int) = s.drop i := sub_all s i
theorem Small.take {s : Str} (h : Small s) (i : Nat) : Small (s.take i) := by unfold Small at *; rw [List.length_take]; omega
theorem Small.drop {s : Str} (h : Small s) (i : Nat) : Small (s.drop i) := by unfold Small at *; rw [List.length_drop]; omega
theorem F_script_named.ok {h : Hp} {rest : Str} (g : Gl h) (hs : Small rest) (X : Chain → Hp → Prop) :
    F_script_named.call rest h (fun x ok h' => ok = (pNamedD rest).isSome ∧ (∀ a l, pNamedD rest = some (a, l) → RepD h' (fun b => h.size ≤ b) x ⟨1, 0, a, zeroT, l⟩) ∧ Fr [] h h') X := by
  refine F_script_named.sound ?_
  unfold F_script_named.body
  intro p1 h2 hn1 ev1
  have hn1' := hn1.1
  have hn1'' := hn1.2
  have hsm : rest.length ≤ 1048576 := hs
  have f2 : Fr [] h h2 := (Fr.refl [] h).ev ev1 (one_ge hn1.1)
  refine ⟨fun s g => ∃ i : Nat, s.1 = (i : Int) ∧ i ≤ rest.length ∧ (∀ j, j < i → nmAt rest j = none) ∧ Fr [] h g ∧ h2.size ≤ g.size, fun s _ => ((rest.length : Int) - s.1).toNat, ⟨0, rfl, Nat.zero_le _, fun j hj => by omega, f2, Nat.le_refl _⟩, ?_⟩
  rintro ⟨_, d⟩ h4 ⟨i, hi0, hil, hno, f4, hs4⟩
  simp only at hi0 ⊢
  subst hi0
  refine ⟨fun hlt => ?_, fun hge => ?_⟩
  · have hlt : i < rest.length := by omega
    refine ⟨fun d' g' => nmAt rest i = none ∧ Fr [] h g' ∧ h2.size ≤ g'.size, ⟨⟨by omega, by omega⟩, fun hb => ?_, fun hb => ?_⟩, ?_⟩
    · have hb : ¬ bt rest (i : Int) = 32 := by simpa using hb
      exact ⟨by unfold nmAt; rw [if_neg hb], f4, hs4⟩
    · have hb : bt rest (i : Int) = 32 := by simpa using hb
      have hnm : nmAt rest i = namedAt rest i := by unfold nmAt; rw [if_pos hb]
      rw [hnm, sub_take]
      refine ⟨⟨by omega, by omega, by omega⟩, fun hL4 => ?_⟩
      have g4 := g.fr f4 (by simp)
      refine F_text_Read.mono (F_text_Read.ok g4 (hs.take i) _) ?_ fun _ _ h => h
      rintro r12 r13 h14 ⟨rfl, hr12, f14⟩
      have e1 : IntKind.i64.wrap ((i : Int) + 1) = ((i + 1 : Nat) : Int) := by rw [wrap64 (by omega) (by omega)]; omega
      rw [e1, sub_drop]
      refine ⟨f14.sameOn hL4 (by simp), ⟨by omega, by omega, by omega⟩, fun p15 h17 hn15 ev15 hL17 => ?_⟩
      have hn15' := hn15.1
      have hn15'' := hn15.2
      have hs14 := f14.1
      have f14' := f4.step f14
      have f17 : Fr [] h h17 := f14'.trans ev15.fr (fun y hy => .inr (by simp at hy; omega))
      have g17 := g.fr f17 (by simp)
      refine F_text_Read.mono (F_text_Read.ok g17 (hs.drop (i + 1)) _) ?_ fun _ _ h => h
      rintro r19 r20 h21 ⟨rfl, hr19, f21⟩
      have hs17 := ev15.size
      have hs21 := f21.1
      have f21' := f17.step f21
      refine ⟨f21.sameOn hL17 (by simp), fun hc p22 h24 hn22 ev22 => ?_, fun hc p22 h24 hn22 ev22 hL24 => ?_⟩
      · have hn22' := hn22.1
        have f24 : Fr [] h h24 := f21'.trans ev22.fr (fun y hy => .inr (by simp at hy; omega))
        refine ⟨?_, f24, by have := ev22.size; omega⟩
        unfold namedAt
        by_cases h1 : (tRead (rest.take i)).2 = 0
        · by_cases h2 : (tRead (rest.drop (i + 1))).2 = 0
          · obtain ⟨a, ha, _⟩ := tRead_good h1
            obtain ⟨l, hl, _⟩ := tRead_good h2
            rw [ha, hl]
            simp only
            rw [if_neg]
            intro hk
            have hka : r12.Kind = 2 := by
              rw [show (tRead (rest.take i)).1 = some a from ha] at hr12
              rw [show r12.Kind = a.kind from hr12.fields.1]; exact hk
            simp [h1, h2, hka] at hc
          · rw [tRead_err h2]
            split <;> first | rfl | (rename_i h'; cases h')
        · rw [tRead_err h1]
      · have hn22' := hn22.1
        simp only [Bool.or_eq_false_iff] at hc
        obtain ⟨⟨h1, h2⟩, h3⟩ := hc
        have h1 : (tRead (rest.take i)).2 = 0 := by simpa using h1
        have h2 : (tRead (rest.drop (i + 1))).2 = 0 := by simpa using h2
        have h3 : r12.Kind = 2 := by simpa using h3
        obtain ⟨a, ha, _⟩ := tRead_good h1
        obtain ⟨l, hl, hpl, _⟩ := tRead_good h2
        rw [show (tRead (rest.take i)).1 = some a from ha] at hr12
        rw [show (tRead (rest.drop (i + 1))).1 = some l from hl] at hr19
        have hka : a.kind = 2 := by rw [← show r12.Kind = a.kind from hr12.fields.1]; exact h3
        have hna : namedAt rest i = (itemsT l).map fun x => (a.s, x) := by unfold namedAt; rw [ha, hl]; simp only; rw [if_pos hka]
        have hr19' := RepT.bound _ _ hr19
        have hr24 : RepT h24 (fun b => h17.size ≤ b ∧ b < h21.size) r19 l := RepT.fr ev22.fr (fun b hb hm => by simp at hm; omega) _ _ hr19'
        have f24 : Fr [] h h24 := f21'.trans ev22.fr (fun y hy => .inr (by simp at hy; omega))
        have hs24 := ev22.size
        refine F_term_Items.mono (F_term_Items.ok (fun b hb => by omega) hr24 (by have := pRead_num hpl; rw [List.length_drop] at this; omega) _) ?_ fun _ _ h => h
        rintro r27 r28 h29 ⟨rfl, hit, f29⟩
        have hs29 := f29.1
        have f29' := f24.step f29
        refine ⟨f29.sameOn hL24 (by simp), fun hok h30 ev30 => ?_, fun hok => ?_⟩
        · obtain ⟨x, hx⟩ := Option.isSome_iff_exists.1 hok
          rw [hx] at hna
          have hfin : pNamedD rest = some (a.s, x) := findSome_first hlt hno (by rw [hnm, hna]; rfl)
          refine ⟨by rw [hfin]; rfl, fun a' l' he => ?_, f29'.trans ev30.fr (fun y hy => .inr (by simp at hy; omega))⟩
          rw [hfin] at he
          injection he with he; injection he with he1 he2; subst he1 he2
          obtain ⟨vs, hv1, hv2⟩ := hit x hx
          have hne : ∀ b, ((h17.size ≤ b ∧ b < h21.size) ∨ h24.size ≤ b) → b ∉ [p22, p15, p1] := fun b hb hm => by have := hn22.2; simp at hm; omega
          refine ⟨rfl, rfl, hr12.fields.2.2.1, RepT.zero _ _, vs, (hv1.fr ev30.fr hne).mono (fun b hb => by omega), RepL.mono (fun b hb => by omega) _ _ (RepL.fr ev30.fr hne _ _ hv2)⟩
        · have hx : itemsT l = none := by simpa using hok
          exact ⟨by rw [hna, hx]; rfl, f29', by omega⟩
    · rintro d' g' ⟨hnm, f', hs'⟩
      have e1 : IntKind.i64.wrap ((i : Int) + 1) = ((i + 1 : Nat) : Int) := by rw [wrap64 (by omega) (by omega)]; omega
      refine ⟨⟨i + 1, e1, by omega, fun j hj => ?_, f', hs'⟩, ?_⟩
      · rcases Nat.lt_or_ge j i with h' | h'
        · exact hno j h'
        · obtain rfl : j = i := by omega
          exact hnm
      · show ((rest.length : Int) - IntKind.i64.wrap ((i : Int) + 1)).toNat < ((rest.length : Int) - (i : Int)).toNat
        rw [e1]; omega
  · intro h31 ev31
    have hfin : pNamedD rest = none := findSome_none fun j hj => hno j (by omega)
    exact ⟨by rw [hfin]; rfl, (fun a l he => by rw [hfin] at he; cases he), f4.trans ev31.fr (fun y hy => .inr (by simp at hy; omega))⟩

/-! ### A line -/
def wFind (w : Str) : Option (Int × Bool × Bool) :=
  if w = [115, 112, 97, 119, 110] then some (1, true, false)
  else if w = [115, 116, 101, 112] then some (2, false, false)
  else if w = [115, 101, 110, 100] then some (3, false, true)
  else if w = [101, 120, 105, 116] then some (4, false, true)
  else if w = [99, 111, 108, 108, 101, 99, 116] then some (5, false, false)
  else if w = [112, 97, 115, 115] then some (6, false, false)
  else if w = [114, 111, 117, 110, 100] then some (7, false, false)
  else if w = [114, 117, 110] then some (8, false, false)
  else if w = [115, 101, 116, 116, 108, 101] then some (9, false, false)
  else none
def wEnc (x : Int × Bool × Bool) : Value := .agg #[.int .i64 x.1, .bool x.2.1, .bool x.2.2]
theorem ite_map {c : Prop} [Decidable c] {α β : Type} {f : α → β} {a : α} {b : β} {x : Option β} {y : Option α} (h1 : b = f a) (h2 : x = y.map f) : (if c then some b else x) = (if c then some a else y).map f := by
  by_cases h : c
  · rw [if_pos h, if_pos h, h1]; rfl
  · rw [if_neg h, if_neg h, h2]
theorem wordRow_get (w : Str) : kvget w wordRow = (wFind w).map wEnc := by
  unfold wordRow wFind
  simp only [kvget]
  exact ite_map rfl (ite_map rfl (ite_map rfl (ite_map rfl (ite_map rfl (ite_map rfl (ite_map rfl (ite_map rfl (ite_map rfl rfl))))))))
def pDeed (w : Int × Bool × Bool) (rest : Str) : Option Dd :=
  if w.2.1 = true then (pNamedD rest).map fun x => ⟨1, 0, x.1, zeroT, x.2⟩
  else if w.2.2 = true then
    match numR (Lib.cut rest [32]).1, readT (Lib.cut rest [32]).2.1 with
    | some n, some t => if (Lib.cut rest [32]).2.2 = true then some ⟨w.1, n, [], t, []⟩ else none
    | _, _ => none
  else (numR rest).map fun n => ⟨w.1, n, [], zeroT, []⟩
/-- Which deed a line says. -/
def pParse (line : Str) : Dd × Int :=
  if 4000 < line.length then (zeroD, 3)
  else match wFind (Lib.cut line [32]).1 with
    | none => (zeroD, 6)
    | some w => match pDeed w (Lib.cut line [32]).2.1 with
      | none => (zeroD, 4)
      | some d => if (Lib.cut line [32]).2.2 = true then (d, 0) else (zeroD, 4)
theorem cut_small {s sep : Str} (h : Small s) : Small (Lib.cut s sep).1 ∧ Small (Lib.cut s sep).2.1 := by
  unfold Lib.cut
  split
  · exact ⟨h.take _, h.drop _⟩
  · exact ⟨h, Nat.zero_le _⟩
theorem F_script_Parse.ok {h : Hp} {line : Str} (g : Gl h) (hs : Small line) (X : Chain → Hp → Prop) :
    F_script_Parse.call line h (fun x e h' => e = (pParse line).2 ∧ RepD h' (fun b => h.size ≤ b) x (pParse line).1 ∧ Fr [] h h') X := by
  refine F_script_Parse.sound ?_
  unfold F_script_Parse.body
  have hsm : line.length ≤ 1048576 := hs
  refine ⟨fun hlong p1 h3 hn ev => ?_, fun hshort p1 h2 hn1 ev1 hL2 => ?_⟩
  · have : pParse line = (zeroD, 3) := by unfold pParse; rw [if_pos (by omega)]
    rw [this]
    exact ⟨rfl, RepD.zero _ _, (Fr.refl [] h).ev ev (one_ge hn.1)⟩
  · have hn1' := hn1.1
    have f2 : Fr [] h h2 := (Fr.refl [] h).ev ev1 (one_ge hn1.1)
    have g2 := g.fr f2 (by simp)
    refine F_strings_Cut.mono (cut_ok g2 (by omega) _) ?_ fun _ _ h => h
    rintro r4 r5 r6 h7 ⟨rfl, rfl, rfl, rfl⟩
    obtain ⟨hsw, hsr⟩ := cut_small (sep := [32]) hs
    have hpp : pParse line = match wFind (Lib.cut line [32]).1 with
        | none => (zeroD, 6)
        | some w => match pDeed w (Lib.cut line [32]).2.1 with
          | none => (zeroD, 4)
          | some d => if (Lib.cut line [32]).2.2 = true then (d, 0) else (zeroD, 4) := by
      unfold pParse; rw [if_neg (by omega)]
    generalize (Lib.cut line [32]).1 = word at *
    generalize (Lib.cut line [32]).2.1 = rest at *
    generalize (Lib.cut line [32]).2.2 = more at *
    refine ⟨fun _ _ => rfl, fun hL7 => ?_⟩
    refine F_script_words.mono (F_script_words.ok _ _) ?_ fun _ _ h => h
    rintro _ h9 ⟨pm, rfl, hm, hpm, f9⟩
    have hs9 := f9.1
    have hs2 := f2.1
    have f9' := f2.step f9
    refine ⟨f9.sameOn hL7 (by simp), ?_⟩
    cases hw : wFind word with
    | none =>
      rw [hw] at hpp
      refine ⟨wordRow, ⟨0, false, false⟩, false, hm, (fun e => by cases e), (fun _ => ⟨by rw [wordRow_get, hw]; rfl, rfl⟩), fun _ p13 h16 hn13 ev16 => ?_, fun e => by cases e⟩
      rw [hpp]
      exact ⟨rfl, RepD.zero _ _, f9'.trans ev16.fr (fun y hy => .inr (by have := hn13.1; simp at hy; omega))⟩
    | some w =>
      obtain ⟨k, na, te⟩ := w
      rw [hw] at hpp
      simp only at hpp
      refine ⟨wordRow, ⟨k, na, te⟩, true, hm, (fun _ => by rw [wordRow_get, hw]; rfl), (fun e => by cases e), (fun e => by cases e), fun _ p13 p17 h19 hn13 hn17 ev19 => ?_⟩
      have hn13' := hn13.1
      have hn17' := hn17.1
      have hn13'' := hn13.2
      have hn17'' := hn17.2
      have hs19 := ev19.size
      have hn1'' := hn1.2
      have f19 : Fr [] h h19 := f9'.trans ev19.fr (fun y hy => .inr (by simp at hy; omega))
      have g19 := g.fr f19 (by simp)
      have hbox : ∀ b, h19.size ≤ b → b ∉ [p17, p13, p1] := fun b hb hm => by simp at hm; omega
      refine ⟨fun s gg => s.1 = (pDeed (k, na, te) rest).isSome ∧ (∀ d, pDeed (k, na, te) rest = some d → RepD gg (fun b => h19.size ≤ b) s.2 d) ∧ Fr [] h gg ∧ h19.size ≤ gg.size, ⟨fun hna hL19 => ?_, fun hna => ⟨fun hte hL19 => ?_, fun hte hL19 => ?_⟩⟩, ?_⟩
      · subst hna
        refine F_script_named.mono (F_script_named.ok g19 hsr _) ?_ fun _ _ h => h
        rintro r23 r24 h25 ⟨rfl, hd, f25⟩
        refine ⟨f25.sameOn hL19 (by simp), fun h26 ev26 => ?_⟩
        have f26 : Fr [] h h26 := (f19.step f25).trans ev26.fr (fun y hy => .inr (by simp at hy; omega))
        refine ⟨by unfold pDeed; rw [if_pos rfl]; simp, fun d hd' => ?_, f26, by have := f25.1; have := ev26.size; omega⟩
        unfold pDeed at hd'
        rw [if_pos rfl] at hd'
        obtain ⟨⟨a, l⟩, hx, rfl⟩ := map_some.1 hd'
        exact (hd a l hx).fr ev26.fr hbox
      · subst hna
        subst hte
        refine F_strings_Cut.mono (cut_ok g19 (by have : rest.length ≤ 1048576 := hsr; omega) _) ?_ fun _ _ h => h
        rintro r27 r28 r29 h30 ⟨rfl, rfl, rfl, rfl⟩
        obtain ⟨hsn, hsb⟩ := cut_small (sep := [32]) hsr
        have hpd : pDeed (k, false, true) rest = match numR (Lib.cut rest [32]).1, readT (Lib.cut rest [32]).2.1 with
            | some n, some t => if (Lib.cut rest [32]).2.2 = true then some ⟨k, n, [], t, []⟩ else none
            | _, _ => none := by unfold pDeed; rfl
        rw [hpd]
        generalize (Lib.cut rest [32]).1 = nn at *
        generalize (Lib.cut rest [32]).2.1 = behind at *
        generalize (Lib.cut rest [32]).2.2 = two at *
        refine ⟨fun _ _ => rfl, fun hL30 => ?_⟩
        refine F_text_Read.mono (F_text_Read.ok g19 hsb _) ?_ fun _ _ h => h
        rintro r31 r32 h33 ⟨rfl, hr31, f33⟩
        refine ⟨f33.sameOn hL30 (by simp), fun p34 h36 hn34 ev36 hL36 => ?_⟩
        have hs33 := f33.1
        have hn34' := hn34.1
        have hn34'' := hn34.2
        have hs36 := ev36.size
        have f36 : Fr [] h h36 := (f19.step f33).trans ev36.fr (fun y hy => .inr (by simp at hy; omega))
        have g36 := g.fr f36 (by simp)
        have hr31 := RepT.bound _ _ hr31
        have hr36 := RepT.fr ev36.fr (fun b hb hm => by simp at hm; omega) _ _ hr31
        refine F_script_number.mono (F_script_number.ok g36 hsn _) ?_ fun _ _ h => h
        rintro r37 r38 h39 ⟨rfl, hnum, f39⟩
        refine ⟨f39.sameOn hL36 (by simp), fun h43 ev43 => ?_⟩
        have hr39 := RepT.fr f39 (by simp) _ _ hr36
        have hr43 := RepT.fr ev43.fr (fun b hb hm => by simp at hm; omega) _ _ hr39
        have f43 : Fr [] h h43 := (f36.step f39).trans ev43.fr (fun y hy => .inr (by simp at hy; omega))
        refine ⟨?_, fun d hd => ?_, f43, by have := f39.1; have := ev43.size; omega⟩
        · show (((numR nn).isSome && two) && ((tRead behind).2 == 0)) = _
          cases hn : numR nn with
          | none => rfl
          | some n =>
            cases ht : readT behind with
            | none =>
              have := readT_none ht
              simp [this]
            | some t =>
              have := (readT_some ht).1
              cases two <;> simp [this]
        · cases hn : numR nn with
          | none => rw [hn] at hd; cases hd
          | some n =>
            cases ht : readT behind with
            | none => rw [hn, ht] at hd; cases hd
            | some t =>
              rw [hn, ht] at hd
              simp only at hd
              split at hd
              · injection hd with hd; subst hd
                rw [show (tRead behind).1 = some t from ht] at hr43
                exact ⟨rfl, hnum n hn, rfl, RepT.mono (fun b hb => hb.1) _ _ hr43, [], RepS.nil, trivial⟩
              · cases hd
      · subst hna
        subst hte
        refine F_script_number.mono (F_script_number.ok g19 hsr _) ?_ fun _ _ h => h
        rintro r44 r45 h46 ⟨rfl, hnum, f46⟩
        refine ⟨f46.sameOn hL19 (by simp), fun h47 ev47 => ?_⟩
        have f47 : Fr [] h h47 := (f19.step f46).trans ev47.fr (fun y hy => .inr (by simp at hy; omega))
        refine ⟨by unfold pDeed; rw [if_neg (by simp), if_neg (by simp)]; simp, fun d hd => ?_, f47, by have := f46.1; have := ev47.size; omega⟩
        unfold pDeed at hd
        rw [if_neg (by simp), if_neg (by simp)] at hd
        obtain ⟨n, hn, rfl⟩ := map_some.1 hd
        exact ⟨rfl, hnum n hn, rfl, RepT.zero _ _, [], RepS.nil, trivial⟩
      · rintro ⟨ok, x⟩ gg ⟨hok, hd, fgg, hsgg⟩
        simp only at hok hd ⊢
        subst hok
        refine ⟨fun hc h49 ev49 => ?_, fun hc h50 ev50 => ?_⟩
        · have f49 : Fr [] h h49 := fgg.trans ev49.fr (fun y hy => .inr (by simp at hy; omega))
          have hp : pParse line = (zeroD, 4) := by
            rw [hpp]
            cases hdd : pDeed (k, na, te) rest with
            | none => rfl
            | some d =>
              rw [hdd] at hc
              simp at hc
              simp [hc]
          rw [hp]
          exact ⟨rfl, RepD.zero _ _, f49⟩
        · have f50 : Fr [] h h50 := fgg.trans ev50.fr (fun y hy => .inr (by simp at hy; omega))
          cases hdd : pDeed (k, na, te) rest with
          | none => rw [hdd] at hc; simp at hc
          | some d =>
            rw [hdd] at hc
            simp at hc
            have hp : pParse line = (d, 0) := by rw [hpp, hdd]; simp [hc]
            rw [hp]
            exact ⟨rfl, ((hd d hdd).fr ev50.fr hbox).mono (fun b hb => by omega), f50⟩
end Go.Proofs.YtefbonjcpdjhcaaGreatDoor.X

/- Stage 2: the document's reader: terms; whole texts. -/
set_option linter.unusedVariables false
set_option maxRecDepth 100000
namespace Go.Proofs.YtefbonjcpdjhcaaGreatDoor.X
open Go Go.RowKit

/-! ### Which way a term goes -/
theorem pNum_none {lo hi : Int} {c : UInt8} {T : Str} (h45 : c ≠ 45) (hd : isDig c = false) : pNum lo hi (c :: T) = none := by
  unfold pNum
  have : numTok (c :: T) = [] := by
    unfold numTok
    split
    · rename_i heq; injection heq with h _; exact absurd h h45
    · rw [List.takeWhile_cons_of_neg (by rw [hd]; simp)]
  rw [this]; rfl
theorem pre_ne {a c : UInt8} {l T : Str} (h : c ≠ a) : ¬ (a :: l).isPrefixOf (c :: T) = true := by
  have : (a == c) = false := by simpa using fun e => h e.symm
  simp [List.isPrefixOf, this]
theorem RT_of (r : Str) : RT r = gTermW qAny RT RM r := GT_eq qAny r
theorem RT_other {c : UInt8} {T : Str} (h1 : c ≠ 123) (h2 : c ≠ 91) (h3 : c ≠ 39) (h4 : c ≠ 35) (h5 : c ≠ 60) :
    RT (c :: T) = if small c = true then pPlain (c :: T) else (pNum (-576460752303423488) 576460752303423487 (c :: T)).map fun q => (.mk 1 q.1 [] [], q.2) := by
  rw [RT_of]
  unfold gTermW
  rw [if_neg (pre_ne h1), if_neg (pre_ne h2), if_neg (pre_ne h3), if_neg (pre_ne h4), if_neg (pre_ne h4), if_neg (pre_ne h5), if_neg (pre_ne h4)]
  rfl
theorem RT_39 {T : Str} : RT (39 :: T) = pQuoted T := by
  rw [RT_of]
  unfold gTermW
  rw [if_neg (pre_ne (by decide)), if_neg (pre_ne (by decide)), if_pos (by simp [List.isPrefixOf])]
  rfl
theorem RT_123 {T : Str} : RT (123 :: T) = (gAllW qAny RT RM [125] T).map fun q => (.mk 7 0 [] q.1, q.2) := by
  rw [RT_of]
  unfold gTermW
  rw [if_pos (by simp [List.isPrefixOf])]
  rfl
theorem RT_91 {T : Str} : RT (91 :: T) = pListW RT RM T := by
  rw [RT_of]
  unfold gTermW
  rw [if_neg (pre_ne (by decide)), if_pos (by simp [List.isPrefixOf])]
  rfl
theorem RT_60 {T : Str} : RT (60 :: T) = if ([60, 48, 46] : Str).isPrefixOf (60 :: T) = true then pNamed 6 [46, 48, 62] ((60 :: T).drop 3) else none := by
  rw [RT_of]
  unfold gTermW
  rw [if_neg (pre_ne (by decide)), if_neg (pre_ne (by decide)), if_neg (pre_ne (by decide)), if_neg (pre_ne (by decide)), if_neg (pre_ne (by decide))]
  refine ite2 (fun _ => rfl) fun _ => ?_
  rw [if_neg (pre_ne (by decide)), if_neg (show ¬ isSmall (60 :: T) = true from by show ¬ small 60 = true; decide), pNum_none (by decide) (by decide)]; rfl
theorem RT_35 {T : Str} : RT (35 :: T) = if ([35, 82, 101, 102, 60] : Str).isPrefixOf (35 :: T) = true then pNamed 3 [62] ((35 :: T).drop 5)
    else if ([35, 84, 105, 100, 60] : Str).isPrefixOf (35 :: T) = true then pNamed 4 [62] ((35 :: T).drop 5)
    else if ([35, 70, 117, 110, 60] : Str).isPrefixOf (35 :: T) = true then gFunW qAny RM ((35 :: T).drop 5) else none := by
  rw [RT_of]
  unfold gTermW
  rw [if_neg (pre_ne (by decide)), if_neg (pre_ne (by decide)), if_neg (pre_ne (by decide))]
  refine ite2 (fun _ => rfl) fun _ => ite2 (fun _ => rfl) fun _ => ?_
  rw [if_neg (pre_ne (by decide))]
  refine ite2 (fun _ => rfl) fun _ => ?_
  rw [if_neg (show ¬ isSmall (35 :: T) = true from by show ¬ small 35 = true; decide), pNum_none (by decide) (by decide)]; rfl
theorem RT_nil : RT [] = none := rfl
theorem RRes.lift {p p1 : Nat} {s : Str} {L L' : Nat} {g h' : Hp} {v : TV} {res : Option (Tm × Str)} (r : RRes p s L g v res) (ev : Ev [p1] g h') (hL : L' ≤ L) (hp1 : p1 < L) (hp : p ≠ p1) : RRes p s L' h' v res := by
  cases res with
  | none => obtain ⟨j, hj, rg⟩ := r; exact ⟨j, hj, rg.fr ev.fr (one_not hp)⟩
  | some x =>
    obtain ⟨t, rr⟩ := x
    obtain ⟨j, hj, rg, hd, hv⟩ := r
    exact ⟨j, hj, rg.fr ev.fr (one_not hp), hd, RepT.mono (fun b hb => by omega) _ _ (RepT.fr ev.fr (fun b hb hm => by simp at hm; omega) _ _ hv)⟩
theorem byte_beq {c d : UInt8} : (((c.toNat : Int)) == (d.toNat : Int)) = true ↔ c = d := by rw [u8_int]; simp
theorem byte_bne {c d : UInt8} : (((c.toNat : Int)) == (d.toNat : Int)) = false ↔ c ≠ d := by rw [u8_int]; simp
theorem term05_step {k : Nat} (hT : RTermC k) : RTermC (k + 1) := by
  intro h p s i X r hs hi hk
  refine F_tenureref05_reader_term.sound ?_
  unfold F_tenureref05_reader_term.body
  have hpl := r.lt
  intro p1 h2 hn1 ev1 hL2
  have hn1' := hn1.1
  have hn1'' := hn1.2
  have hp1 : p ≠ p1 := by omega
  have f2 : Fr [p] h h2 := ev1.fr.sub (fun y hy => .inr (by simp at hy; omega))
  have hs2 := f2.1
  have r2 := r.fr ev1.fr (one_not hp1)
  have so : ∀ {a b : Hp}, Fr [p] a b → LtAll [p1] a → SameOn [p1] a b := fun f hl => f.sameOn hl (by simp; omega)
  have fin : ∀ {g h' : Hp} {v : TV} {res : Option (Tm × Str)}, Fr [p] h2 g → RRes p s h2.size g v res → Ev [p1] g h' → Fr [p] h h' ∧ RRes p s h.size h' v res := fun fg hr ev =>
    ⟨ev2 (f2.same fg) ev (one_ge hn1'), hr.lift ev (by omega) hn1'' hp1⟩
  have hkk : (s.drop i).length ≤ k := by omega
  refine F_tenureref05_reader_next.mono (next_ok r2 _) ?_ fun _ _ h => h
  rintro c3 _ ⟨hc3, rfl⟩
  refine ⟨fun _ _ => rfl, _, rfl, false, r2.bad, fun e => (by cases e), fun _ => ?_⟩
  -- the first byte
  cases hd : s.drop i with
  | nil =>
    have hil : s.length ≤ i := by simpa using hd
    have hc0 : c3 = 0 := by rw [hc3]; unfold nextB; rw [if_pos (.inr hil)]
    subst hc0
    rw [RT_nil]
    have hst : ∀ t : Str, t ≠ [] → t.isPrefixOf (s.drop i) = false := fun t ht => by rw [hd]; cases t with
      | nil => exact absurd rfl ht
      | cons a t => rfl
    refine ⟨fun y g => h2 = g ∧ y = false, ⟨fun e => (by cases e), fun _ hL => ?_⟩, ?_⟩
    · refine F_tenureref05_within.mono (within_ok _ _ _ _ _) ?_ fun _ _ h => h
      rintro w _ ⟨rfl, rfl⟩
      exact ⟨fun _ _ => rfl, rfl, by decide⟩
    · rintro y _ ⟨rfl, rfl⟩
      refine ⟨fun e => (by cases e), fun _ => ⟨fun e => (by cases e), fun _ hL => ?_⟩⟩
      refine F_tenureref05_within.mono (within_ok _ _ _ _ _) ?_ fun _ _ h => h
      rintro w _ ⟨rfl, rfl⟩
      refine ⟨fun _ _ => rfl, fun e => absurd e (by decide), fun _ => ⟨fun e => (by cases e), fun _ hL => ?_⟩⟩
      refine F_tenureref05_reader_starts.mono (starts_ok r2 hs (by omega) (by simp) (by simp) _) ?_ fun _ _ h => h
      rintro w _ ⟨rfl, rfl⟩
      rw [hst _ (by simp)]
      refine ⟨fun _ _ => rfl, fun e => (by cases e), fun _ hL => ?_⟩
      refine F_tenureref05_reader_starts.mono (starts_ok r2 hs (by omega) (by simp) (by simp) _) ?_ fun _ _ h => h
      rintro w _ ⟨rfl, rfl⟩
      rw [hst _ (by simp)]
      refine ⟨fun _ _ => rfl, fun e => (by cases e), fun _ hL => ?_⟩
      refine F_tenureref05_reader_starts.mono (starts_ok r2 hs (by omega) (by simp) (by simp) _) ?_ fun _ _ h => h
      rintro w _ ⟨rfl, rfl⟩
      rw [hst _ (by simp)]
      refine ⟨fun _ _ => rfl, fun e => (by cases e), fun _ => ⟨fun e => (by cases e), fun _ => ⟨fun e => (by cases e), fun _ => ⟨r2.stb, fun h50 e50 => ?_⟩⟩⟩⟩
      have hr := r2.set e50
      refine ⟨fun q hq => hr.2.2 q (by simp at hq; omega) (by simp at hq ⊢; omega), fun h51 ev51 => ?_⟩
      exact fin (res := none) hr.2 ⟨i, by omega, hr.1⟩ ev51
  | cons c T =>
    have hil := drop_cons_lt hd
    have hcc : c3 = (c.toNat : Int) := by
      rw [hc3]; unfold nextB
      rw [if_neg (by rintro (h | h); cases h; omega), bt_drop hd]
    subst hcc
    have hst : ∀ (a : UInt8) (t : Str), c ≠ a → (a :: t).isPrefixOf (s.drop i) = false := fun a t h => by
      rw [hd]
      have := pre_ne (l := t) (T := T) h
      cases hh : (a :: t).isPrefixOf (c :: T) with
      | false => rfl
      | true => exact absurd hh this
    refine ⟨fun y g => h2 = g ∧ y = (decide (c = 45) || isDig c), ⟨fun e => ⟨rfl, ?_⟩, fun e hL => ?_⟩, ?_⟩
    · have := byte_beq (d := 45).1 e
      subst this; rfl
    · have h45 := byte_bne (d := 45).1 e
      refine F_tenureref05_within.mono (within_ok _ _ _ _ _) ?_ fun _ _ h => h
      rintro w _ ⟨rfl, rfl⟩
      refine ⟨fun _ _ => rfl, rfl, ?_⟩
      rw [dig_int, decide_eq_false h45]; rfl
    · rintro y _ ⟨rfl, rfl⟩
      refine ⟨fun hnum hL => ?_, fun hnum => ⟨fun e39 hL => ?_, fun e39 hL => ?_⟩⟩
      · -- a number
        have hcn : ∀ a : UInt8, a ≠ 45 → isDig a = false → c ≠ a := by
          rintro a h1 h2 rfl
          rw [h2, decide_eq_false h1] at hnum; cases hnum
        have hsm : small c = false := by
          simp only [Bool.or_eq_true, decide_eq_true_eq] at hnum
          rcases hnum with rfl | hnum
          · rfl
          · unfold isDig at hnum
            simp only [Bool.and_eq_true, decide_eq_true_eq] at hnum
            unfold small
            rw [decide_eq_false (show ¬ 97 ≤ c.toNat by omega)]; rfl
        rw [RT_other (hcn 123 (by decide) (by decide)) (hcn 91 (by decide) (by decide)) (hcn 39 (by decide) (by decide)) (hcn 35 (by decide) (by decide)) (hcn 60 (by decide) (by decide)), if_neg (by rw [hsm]; simp), ← hd]
        refine F_tenureref05_reader_number.mono (number_ok r2 hs (by omega) (fun _ => hi) (by omega) (by omega) _) ?_ fun _ _ h => h
        rintro n h15 ⟨f15, hr15⟩
        rw [if_neg (by simp)] at hr15
        refine ⟨so f15 hL, fun h16 ev16 => fin f15 ?_ ev16⟩
        cases hn : pNum (-576460752303423488) 576460752303423487 (s.drop i) with
        | none => rw [hn] at hr15; exact hr15
        | some q =>
          obtain ⟨m, rr⟩ := q
          rw [hn] at hr15
          obtain ⟨j, hj, rg, hdj, rfl⟩ := hr15
          exact ⟨j, hj, rg, hdj, rfl, rfl, rfl, [], RepS.nil, trivial⟩
      · -- a quoted atom
        have := byte_beq (d := 39).1 e39
        subst this
        rw [RT_39]
        refine F_tenureref05_reader_quoted.mono (quoted05r_ok r2 hs hi hd _) ?_ fun _ _ h => h
        rintro v h18 ⟨f18, hr18⟩
        exact ⟨so f18 hL, fun h19 ev19 => fin f18 hr18 ev19⟩
      · have h39 := byte_bne (d := 39).1 e39
        simp only [Bool.or_eq_false_iff, decide_eq_false_iff_not] at hnum
        obtain ⟨h45, hdig⟩ := hnum
        refine F_tenureref05_within.mono (within_ok _ _ _ _ _) ?_ fun _ _ h => h
        rintro w _ ⟨rfl, rfl⟩
        rw [small_int]
        refine ⟨fun _ _ => rfl, fun hsm hL => ?_, fun hsm => ⟨fun e60 hL => ?_, fun e60 hL => ?_⟩⟩
        · -- a plain atom
          have hcn : ∀ a : UInt8, small a = false → c ≠ a := by rintro a h1 rfl; rw [h1] at hsm; cases hsm
          rw [RT_other (hcn 123 (by decide)) (hcn 91 (by decide)) (hcn 39 (by decide)) (hcn 35 (by decide)) (hcn 60 (by decide)), if_pos hsm, ← hd]
          refine F_tenureref05_reader_plain.mono (plain05r_ok r2 hs hi _) ?_ fun _ _ h => h
          rintro v h18 ⟨f18, hr18⟩
          exact ⟨so f18 hL, fun h19 ev19 => fin f18 hr18 ev19⟩
        · have := byte_beq (d := 60).1 e60
          subst this
          rw [RT_60, ← hd]
          refine F_tenureref05_reader_numbered.mono (numbered_ok r2 hs hi (by simp) (by simp) (by simp) (by simp) _) ?_ fun _ _ h => h
          rintro v h18 ⟨f18, hr18⟩
          exact ⟨so f18 hL, fun h19 ev19 => fin f18 hr18 ev19⟩
        · have h60 := byte_bne (d := 60).1 e60
          refine F_tenureref05_reader_starts.mono (starts_ok r2 hs (by omega) (by simp) (by simp) _) ?_ fun _ _ h => h
          rintro w _ ⟨rfl, rfl⟩
          refine ⟨fun _ _ => rfl, fun hw hL => ?_, fun hw1 hL => ?_⟩
          · have hw : ([35, 82, 101, 102, 60] : Str).isPrefixOf (s.drop i) = true := hw
            have hc35 : c = 35 := by by_cases hc : c = 35; exact hc; rw [hst 35 _ hc] at hw; cases hw
            subst hc35
            rw [RT_35, ← hd, if_pos hw]
            refine F_tenureref05_reader_numbered.mono (numbered_ok r2 hs hi (by simp) (by simp) (by simp) (by simp) _) ?_ fun _ _ h => h
            rintro v h18 ⟨f18, hr18⟩
            rw [if_pos hw] at hr18
            exact ⟨so f18 hL, fun h19 ev19 => fin f18 hr18 ev19⟩
          · have hw1 : ([35, 82, 101, 102, 60] : Str).isPrefixOf (s.drop i) = false := hw1
            refine F_tenureref05_reader_starts.mono (starts_ok r2 hs (by omega) (by simp) (by simp) _) ?_ fun _ _ h => h
            rintro w _ ⟨rfl, rfl⟩
            refine ⟨fun _ _ => rfl, fun hw hL => ?_, fun hw2 hL => ?_⟩
            · have hw : ([35, 84, 105, 100, 60] : Str).isPrefixOf (s.drop i) = true := hw
              have hc35 : c = 35 := by by_cases hc : c = 35; exact hc; rw [hst 35 _ hc] at hw; cases hw
              subst hc35
              rw [RT_35, ← hd, if_neg (by rw [hw1]; simp), if_pos hw]
              refine F_tenureref05_reader_numbered.mono (numbered_ok r2 hs hi (by simp) (by simp) (by simp) (by simp) _) ?_ fun _ _ h => h
              rintro v h18 ⟨f18, hr18⟩
              rw [if_pos hw] at hr18
              exact ⟨so f18 hL, fun h19 ev19 => fin f18 hr18 ev19⟩
            · have hw2 : ([35, 84, 105, 100, 60] : Str).isPrefixOf (s.drop i) = false := hw2
              refine F_tenureref05_reader_starts.mono (starts_ok r2 hs (by omega) (by simp) (by simp) _) ?_ fun _ _ h => h
              rintro w _ ⟨rfl, rfl⟩
              refine ⟨fun _ _ => rfl, fun hw hL => ?_, fun hw3 => ?_⟩
              · have hw : ([35, 70, 117, 110, 60] : Str).isPrefixOf (s.drop i) = true := hw
                have hc35 : c = 35 := by by_cases hc : c = 35; exact hc; rw [hst 35 _ hc] at hw; cases hw
                subst hc35
                rw [RT_35, ← hd, if_neg (by rw [hw1]; simp), if_neg (by rw [hw2]; simp), if_pos hw]
                refine F_tenureref05_reader_fun.mono (fun_ok hT r2 hs hi hkk hw _) ?_ fun _ _ h => h
                rintro v h18 ⟨f18, hr18⟩
                exact ⟨so f18 hL, fun h19 ev19 => fin f18 hr18 ev19⟩
              · have hw3 : ([35, 70, 117, 110, 60] : Str).isPrefixOf (s.drop i) = false := hw3
                refine ⟨fun e123 hL => ?_, fun e123 => ⟨fun e91 hL => ?_, fun e91 => ?_⟩⟩
                · have := byte_beq (d := 123).1 e123
                  subst this
                  rw [RT_123]
                  refine F_tenureref05_reader_eat.mono (eat_ok r2 hs (by omega) (by simp) (by simp) _) ?_ fun _ _ h => h
                  rintro h43 ⟨f43, hr43⟩
                  rw [if_pos (by rw [hd]; simp [List.isPrefixOf])] at hr43
                  obtain ⟨r43, hj43⟩ := hr43
                  have r43 : Rdr h43 p s (i + 1) false := r43
                  have hj43 : i + 1 ≤ s.length := hj43
                  refine ⟨so f43 hL, fun hL43 => ?_⟩
                  have hd1 : s.drop (i + 1) = T := drop_succ_of hd
                  have hlt : (s.drop (i + 1)).length < k := by
                    rw [hd1]
                    rw [hd] at hkk
                    have : T.length + 1 ≤ k := hkk
                    omega
                  refine F_tenureref05_reader_among.mono (among_ok hT r43 hs hj43 hlt (by decide) _) ?_ fun _ _ h => h
                  rintro x h45 ⟨f45, hrow⟩
                  rw [hd1] at hrow
                  refine ⟨so f45 hL43, fun h46 ev46 => fin (f43.same f45) ?_ ev46⟩
                  have hs43 := f43.1
                  cases hA : gAllW qAny RT RM [125] T with
                  | none => rw [hA] at hrow; exact hrow
                  | some y =>
                    obtain ⟨l, rr⟩ := y
                    rw [hA] at hrow
                    obtain ⟨j, hj, rg, hdj, vs, hv1, hv2⟩ := hrow
                    exact ⟨j, hj, rg, hdj, rfl, rfl, rfl, vs, hv1.mono (fun b hb => by omega), RepL.mono (fun b hb => by omega) _ _ hv2⟩
                · have := byte_beq (d := 91).1 e91
                  subst this
                  rw [RT_91]
                  refine F_tenureref05_reader_list.mono (list_ok hT r2 hs hi hkk (by rw [hd]; simp [List.isPrefixOf]) _) ?_ fun _ _ h => h
                  rintro v h18 ⟨f18, hr18⟩
                  rw [hd] at hr18
                  exact ⟨so f18 hL, fun h19 ev19 => fin f18 hr18 ev19⟩
                · have h123 := byte_bne (d := 123).1 e123
                  have h91 := byte_bne (d := 91).1 e91
                  refine ⟨r2.stb, fun h50 e50 => ?_⟩
                  have hr := r2.set e50
                  refine ⟨fun q hq => hr.2.2 q (by simp at hq; omega) (by simp at hq ⊢; omega), fun h51 ev51 => ?_⟩
                  have hno : RT (c :: T) = none := by
                    by_cases hc35 : c = 35
                    · subst hc35
                      rw [RT_35, ← hd, if_neg (by rw [hw1]; simp), if_neg (by rw [hw2]; simp), if_neg (by rw [hw3]; simp)]
                    · rw [RT_other h123 h91 h39 hc35 h60, if_neg (by rw [hsm]; simp), pNum_none h45 hdig]; rfl
                  rw [hno]
                  exact fin (res := none) hr.2 ⟨i, by omega, hr.1⟩ ev51
theorem term05_all : ∀ k, RTermC k
  | 0 => fun h p s i X _ _ _ hk => by omega
  | k + 1 => term05_step (term05_all k)

/-! ### Whole texts -/
theorem chk_lim : ∀ (n : Nat) (t : Tm), (pre t).length ≤ n → (pre t).all soundT = true → limT t := by
  intro n
  induction n using Nat.strongRecOn with
  | _ n ih =>
    intro t hn hs
    have hpre := pre_eq t
    rw [hpre] at hs hn
    simp only [List.all_cons, Bool.and_eq_true, List.length_cons] at hs hn
    obtain ⟨k, m, s, l⟩ := t
    simp only [Tm.l] at hs hn
    refine ⟨fun hk => ?_, ?_⟩
    · have h1 := hs.1
      rcases hk with rfl | rfl
      · change soundB 5 m s (l.length : Int) = true at h1
        unfold soundB at h1
        rw [if_neg (by decide), if_neg (by decide), if_neg (by decide), if_pos rfl] at h1
        simp only [Bool.and_eq_true, decide_eq_true_eq] at h1
        have := h1.2
        omega
      · change soundB 7 m s (l.length : Int) = true at h1
        unfold soundB at h1
        rw [if_neg (by decide), if_neg (by decide), if_neg (by decide), if_neg (by decide), if_pos rfl] at h1
        simp only [Bool.and_eq_true, decide_eq_true_eq] at h1
        have := h1.2
        omega
    · have hall := hs.2
      have key : ∀ l' : List Tm, (preL l').length < n → (preL l').all soundT = true → limL l' := by
        intro l'
        induction l' with
        | nil => intro _ _; trivial
        | cons x l' ihl =>
          intro h1 h2
          simp only [preL, List.length_append, List.all_append, Bool.and_eq_true] at h1 h2
          exact ⟨ih (pre x).length (by omega) x (Nat.le_refl _) h2.1, ihl (by omega) h2.2⟩
      exact key l (by omega) hall
/-- What the document's reader tells of a text. -/
def rRead (s : Str) : Option Tm :=
  match RT s with
  | none => none
  | some (t, r) => if r = [] ∧ chk t = 0 then some t else none
theorem rRead_eq (s : Str) : rRead s = readT s := by
  have hlim := (lim_law s.length s (Nat.le_refl _)).1
  unfold rRead readT tRead
  rw [pRead_eq]
  cases hr : RT s with
  | none =>
    have : GT q64 s = none := by
      cases h4 : GT q64 s with
      | none => rfl
      | some x =>
        obtain ⟨t, r⟩ := x
        have := ((hlim t r).1 h4).1
        rw [show RT s = GT qAny s from rfl, this] at hr; cases hr
    rw [this]
  | some x =>
    obtain ⟨t, r⟩ := x
    simp only
    by_cases hc : chk t = 0
    · have hall : (pre t).all soundT = true := by
        unfold chk at hc
        split at hc
        · assumption
        · cases hc
      have h4 := (hlim t r).2 ⟨hr, chk_lim _ t (Nat.le_refl _) hall⟩
      rw [h4]
      by_cases hr0 : r = []
      · simp [hr0, hc]
      · simp [hr0]
    · cases h4 : GT q64 s with
      | none => simp [hc]
      | some x =>
        obtain ⟨t', r'⟩ := x
        have h5 := ((hlim t' r').1 h4).1
        rw [show RT s = GT qAny s from rfl, h5] at hr
        injection hr with hr; injection hr with h6 h7; subst h6 h7
        by_cases hr0 : r' = []
        · simp [hr0, hc]
        · simp [hr0]
theorem Read05_ok {h : Hp} {s : Str} (hs : Small s) (X : Chain → Hp → Prop) :
    F_tenureref05_Read.call s h (fun v e h' => (e == 0) = (readT s).isSome ∧ RepT h' (fun b => h.size ≤ b) v ((readT s).getD zeroT) ∧ Fr [] h h') X := by
  refine F_tenureref05_Read.sound ?_
  unfold F_tenureref05_Read.body
  rw [← rRead_eq]
  have hsm : s.length ≤ 1048576 := hs
  have hz : ∀ h', RepT h' (fun b => h.size ≤ b) (⟨0, 0, ([] : Str), (⟨none, 0, 0⟩ : Sl)⟩ : V_api_Term) zeroT := fun h' => ⟨rfl, rfl, rfl, [], RepS.nil, trivial⟩
  intro p1 h2 hn1 ev1 p3 h4 hp3 e4
  have hn1' := hn1.1
  have hn1'' := hn1.2
  have f4 := Fr.push e4
  have s4 := size_push e4
  have hs2 := ev1.size
  have r4 : Rdr h4 p3 s 0 false := Blk.new hp3 e4
  have f04 : Fr [] h h4 := ((Fr.refl [] h).ev ev1 (one_ge hn1')).step f4
  intro hL4
  refine F_tenureref05_reader_term.mono (term05_all (s.length + 1) h4 p3 s 0 X r4 hs (by omega) (by simp)) ?_ fun _ _ h => h
  rintro v h6 ⟨f6, hres⟩
  rw [List.drop_zero] at hres
  have hs6 := f6.1
  refine ⟨f6.sameOn hL4 (by simp; omega), fun p7 h9 hn7 ev9 => ?_⟩
  have hn7' := hn7.1
  have hn7'' := hn7.2
  have hs9 := ev9.size
  have hbox : ∀ y ∈ [p7, p1], h.size ≤ y := two_ge (by omega) hn1'
  have hpb : p3 ∉ [p7, p1] := by simp; omega
  have f09 : Fr [] h h9 := (f04.trans f6 (fun y hy => .inr (by simp at hy; omega))).trans ev9.fr (fun y hy => .inr (hbox y hy))
  have fin : ∀ {g h' : Hp}, Fr [] h g → Ev [p7, p1] g h' → Fr [] h h' := fun fg ev => fg.trans ev.fr (fun y hy => .inr (hbox y hy))
  have hr : rRead s = match RT s with
      | none => none
      | some (t, r) => if r = [] ∧ chk t = 0 then some t else none := rfl
  cases ht : RT s with
  | none =>
    rw [ht] at hres hr
    simp only at hr
    rw [hr]
    obtain ⟨j, hj, r6⟩ := hres
    have r9 := r6.fr ev9.fr hpb
    refine ⟨true, r9.bad, (j : Int), fun _ => r9.pos, fun _ h13 ev13 => ⟨rfl, hz _, fin f09 ev13⟩, fun e => (by simp at e)⟩
  | some x =>
    obtain ⟨t, rr⟩ := x
    rw [ht] at hres hr
    simp only at hr
    obtain ⟨j, hj, r6, hdj, hv⟩ := hres
    have r9 := r6.fr ev9.fr hpb
    refine ⟨false, r9.bad, (j : Int), fun _ => r9.pos, fun hc h13 ev13 => ?_, fun hc hL9 => ?_⟩
    · have hlt : j < s.length := by simpa using hc
      have hrr : rr ≠ [] := by
        intro e
        rw [e, drop_nil_iff] at hdj
        omega
      rw [hr, if_neg (fun e => hrr e.1)]
      exact ⟨rfl, hz _, fin f09 ev13⟩
    · have hge : s.length ≤ j := by
        have hc2 : decide ((j : Int) < (s.length : Int)) = false := hc
        have := of_decide_eq_false hc2
        omega
      have hrr : rr = [] := by rw [← hdj, drop_nil_iff]; exact hge
      have hv := RepT.bound _ _ hv
      have hv9 : RepT h9 (fun b => h4.size ≤ b ∧ b < h6.size) v t := RepT.fr ev9.fr (fun b hb hm => by simp at hm; omega) _ _ hv
      have hnum := (num_law qAny s.length s (Nat.le_refl _)).1 t rr ht
      refine F_tenureref02_Check.mono (Check02_ok hv9 (by omega) _) ?_ fun _ _ h => h
      rintro e h15 ⟨rfl, f15⟩
      have f015 := f09.step f15
      refine ⟨f15.sameOn hL9 (by simp), fun h2' h16 ev16 => ?_, fun h2' => ⟨fun h0' h16 ev16 => ?_, fun h0' h16 ev16 => ?_⟩⟩
      · have hc2 : chk t = 2 := by simpa using h2'
        rw [hr, if_neg (fun e => by rw [hc2] at e; exact absurd e.2 (by decide))]
        exact ⟨rfl, hz _, fin f015 ev16⟩
      · have hc0 : ¬ chk t = 0 := by simpa using h0'
        rw [hr, if_neg (fun e => hc0 e.2)]
        refine ⟨by simpa using hc0, hz _, fin f015 ev16⟩
      · have hc0 : chk t = 0 := by simpa using h0'
        rw [hr, if_pos ⟨hrr, hc0⟩]
        refine ⟨rfl, ?_, fin f015 ev16⟩
        exact RepT.mono (fun b hb => by omega) _ _ (RepT.fr ev16.fr (fun b hb hm => by simp at hm; omega) _ _ (RepT.fr f15 (by simp) _ _ hv9))
end Go.Proofs.YtefbonjcpdjhcaaGreatDoor.X

/- Stage 2: the document's lines: items, cuts, numbers. -/
set_option linter.unusedVariables false
set_option maxRecDepth 100000
namespace Go.Proofs.YtefbonjcpdjhcaaGreatDoor.X
open Go Go.RowKit

theorem items31_ok {h : Hp} {v : TV} {t : Tm} {P : Nat → Prop} (hP : ∀ b, P b → b < h.size) (hv : RepT h P v t) (hn : (pre t).length ≤ 1048576) (h2c : ∀ u ∈ pre t, u.kind = 9 → u.l.length = 2) (X : Chain → Hp → Prop) :
    F_tenureref31_items.call v h (fun x ok h' => ok = (itemsT t).isSome ∧ (∀ l, itemsT t = some l → ∃ vs, RepS tc h' (fun b => P b ∨ h.size ≤ b) x vs ∧ RepL h' (fun b => P b ∨ h.size ≤ b) vs l) ∧ Fr [] h h') X := by
  refine F_tenureref31_items.sound ?_
  unfold F_tenureref31_items.body
  intro p1 h2 hn1 ev1
  have hn1' := hn1.1
  have hn1'' := hn1.2
  have f2 : Fr [] h h2 := (Fr.refl [] h).ev ev1 (one_ge hn1.1)
  refine ⟨fun s g => ∃ ts vs O t', O.length ≤ 1 ∧ (∀ y ∈ O, h.size ≤ y ∧ y ≠ p1) ∧ SlG tc 4 24 g s.1 vs O ∧ RepL g P vs ts ∧ RepT g P s.2 t' ∧ ts.length + (pre t').length ≤ (pre t).length ∧ (∀ u ∈ pre t', u.kind = 9 → u.l.length = 2) ∧
    itemsT t = (itemsT t').map (ts ++ ·) ∧ Fr [] h g ∧ h2.size ≤ g.size, fun s _ => (pre t).length - s.1.len,
    ⟨[], [], [], t, by simp, by simp, ⟨rfl, rfl⟩, trivial, RepT.fr f2 (by simp) _ _ hv, by simp, h2c, by simp, f2, Nat.le_refl _⟩, ?_⟩
  rintro ⟨x, u⟩ g ⟨ts, vs, O, t', hO, hOl, hx, hr, hu, hnum, hc2, hit, fg, hgs⟩
  simp only at hx hu ⊢
  have hlen := hx.len
  have hvl := RepL.length _ _ hr
  have hpp := pre_pos t'
  obtain ⟨e1, e2, e3, e4⟩ := hu.fields
  have hf1 := fg.1
  refine ⟨fun hc => ?_, fun hc => ?_⟩
  · have hc9 : t'.kind = 9 := by rw [e1] at hc; simpa using hc
    have hl2 := hc2 t' (by rw [pre_eq]; exact List.mem_cons_self ..) hc9
    obtain ⟨k, n, s, l⟩ := t'
    simp only [Tm.kind, Tm.l] at hc9 hl2
    subst hc9
    obtain ⟨a, b, rfl⟩ : ∃ a b, l = [a, b] := by
      match l, hl2 with
      | [a, b], _ => exact ⟨a, b, rfl⟩
    obtain ⟨_, _, _, us, hus, hul⟩ := hu
    obtain ⟨va, ha, hva⟩ := RepL.get _ _ 0 a hul rfl
    obtain ⟨vb, hb, hvb⟩ := RepL.get _ _ 1 b hul rfl
    have hull : us.length = 2 := RepL.length _ _ hul
    obtain ⟨a0, ha0, hc0⟩ := hus.get tc_len ha
    refine IdxW.of (i := 0) (by have := hus.1; omega) ha0 ⟨va, hc0, fun p11 h12 hp11 e12 => ?_⟩
    have f12 := Fr.push e12
    have s12 := size_push e12
    have hOg : ∀ y ∈ O, y < g.size := fun y hy => by
      cases O with
      | nil => cases hy
      | cons z O =>
        obtain rfl : O = [] := by simpa using hO
        simp at hy; subst hy; exact hx.lt
    refine AppW.one tc_len tc_one hO (hx.fr f12 (by simp)) (Blk.new hp11 e12) (by omega) (by omega) rfl ?_
    intro x' h14 O' g' hO' f14 hs
    have fg14 : Fr O g h14 := ((Fr.refl O g).step f12).same f14
    have hPO : ∀ b, P b → b ∉ O := fun b hb hm => by have := hP b hb; have := (hOl b hm).1; omega
    have hL1 : p1 < g.size := by omega
    refine ⟨fun q hq => ?_, ?_⟩
    · simp at hq; subst hq
      exact f14.2 _ (by omega) (fun hm => (hOl _ hm).2 rfl)
    · obtain ⟨a1, ha1, hc1⟩ := (hus.fr fg14 hPO).get tc_len hb
      refine IdxW.of (i := 1) (by have := hus.1; omega) ha1 ⟨vb, hc1, fun h18 ev18 => ?_⟩
      have f18 := ev18.fr
      have hO'l : ∀ y ∈ O', h.size ≤ y ∧ y ≠ p1 := fun y hy => by
        rcases hs y hy with h' | h'
        · exact hOl y h'
        · exact ⟨by omega, by omega⟩
      have hPn : ∀ b, P b → b ∉ [p1] := fun b hb => by have := hP b hb; simp; omega
      have hx' := g'.len
      simp at hx'
      have hs14 := fg14.1
      refine ⟨⟨ts ++ [a], vs ++ [va], O', b, hO', hO'l, g'.fr f18 (fun y hy => by simpa using (hO'l y hy).2), ?_, RepT.fr f18 hPn _ _ (RepT.fr fg14 hPO _ _ hvb), ?_, ?_, ?_, ?_, Nat.le_trans hgs (Nat.le_trans hs14 f18.1)⟩, ?_⟩
      · exact RepL.append _ _ _ _ (RepL.fr f18 hPn _ _ (RepL.fr fg14 hPO _ _ hr)) ⟨RepT.fr f18 hPn _ _ (RepT.fr fg14 hPO _ _ hva), trivial⟩
      · have := pre_pos a
        simp only [pre, preL, List.length_cons, List.length_append, List.length_nil] at hnum ⊢
        omega
      · intro w hw
        refine hc2 w ?_
        simp only [pre, preL, List.append_nil]
        exact List.mem_cons_of_mem _ (List.mem_append_right _ hw)
      · rw [hit, itemsT_cons, Option.map_map]
        congr 1
        funext z
        simp
      · exact (fg.trans fg14 (fun y hy => .inr (hOl y hy).1)).trans f18 (fun y hy => .inr (by simp at hy; omega))
      · show (pre t).length - x'.len < (pre t).length - x.len
        simp only [pre, preL, List.length_cons, List.length_append, List.length_nil] at hnum
        omega
  · have hc9 : ¬ t'.kind = 9 := by rw [e1] at hc; simpa using hc
    rw [itemsT_end _ (fun e => hc9 e.1)] at hit
    by_cases h8 : t'.kind = 8
    · rw [if_pos h8] at hit
      refine ⟨by rw [hit, e1, h8]; rfl, fun l hl => ?_, fg⟩
      rw [hit] at hl
      injection hl with hl
      simp at hl
      subst hl
      exact ⟨vs, hx.rep (fun b hb => .inr (hOl b hb).1), RepL.mono (fun b hb => .inl hb) _ _ hr⟩
    · rw [if_neg h8] at hit
      refine ⟨by rw [hit, e1]; simpa using h8, fun l hl => (by rw [hit] at hl; cases hl), fg⟩

/-! ### Cut -/
theorem occAt_one (s : Str) (c : UInt8) (i : Nat) : Lib.occAt s [c] i = true ↔ s[i]? = some c := by
  unfold Lib.occAt
  rw [isPrefixOf_one]
  constructor
  · rintro ⟨r', h⟩
    have := congrArg (fun l => l[0]?) h
    simpa using this
  · intro h
    obtain ⟨h1, h2⟩ := List.getElem?_eq_some_iff.1 h
    exact ⟨s.drop (i + 1), by rw [List.drop_eq_getElem_cons h1, h2]⟩
theorem cut_hit {s : Str} {i : Nat} (hi : s[i]? = some 32) (hno : ∀ j, j < i → s[j]? ≠ some 32) : Lib.cut s [32] = (s.take i, s.drop (i + 1), true) := by
  have hlt := (List.getElem?_eq_some_iff.1 hi).1
  have : Lib.index s [32] = i := Lib.index_first (by omega) ((occAt_one s 32 i).2 hi) fun j hj => by
    cases h : Lib.occAt s [32] j with
    | false => rfl
    | true => exact absurd ((occAt_one s 32 j).1 h) (hno j hj)
  unfold Lib.cut
  rw [this, if_pos (by omega)]
  simp
theorem cut_miss {s : Str} (hno : ∀ j, j < s.length → s[j]? ≠ some 32) : Lib.cut s [32] = (s, [], false) := by
  have : Lib.index s [32] = -1 := Lib.index_none fun j hj => by
    cases h : Lib.occAt s [32] j with
    | false => rfl
    | true =>
      have h1 := (occAt_one s 32 j).1 h
      exact absurd h1 (hno j (List.getElem?_eq_some_iff.1 h1).1)
  unfold Lib.cut
  rw [this, if_neg (by omega)]
theorem bt_32 {s : Str} {i : Nat} (h : i < s.length) : ((bt s (i : Int)) == 32) = decide (s[i]? = some 32) := by
  rw [bt_nat h, show (32 : Int) = (((32 : UInt8).toNat : Nat) : Int) from rfl, u8_int, List.getElem?_eq_getElem h]
  simp
theorem Cut31_ok {h : Hp} {s : Str} (hs : Small s) (X : Chain → Hp → Prop) : F_tenureref31_Cut.call s h (fun a b c h' => a = (Lib.cut s [32]).1 ∧ b = (Lib.cut s [32]).2.1 ∧ c = (Lib.cut s [32]).2.2 ∧ h = h') X := by
  refine F_tenureref31_Cut.sound ?_
  unfold F_tenureref31_Cut.body
  have hsm : s.length ≤ 1048576 := hs
  refine ⟨fun i g => h = g ∧ ∃ k : Nat, i = (k : Int) ∧ k ≤ s.length ∧ ∀ j, j < k → s[j]? ≠ some 32, fun i _ => ((s.length : Int) - i).toNat, ⟨rfl, 0, rfl, by omega, fun j hj => by omega⟩, ?_⟩
  rintro _ _ ⟨rfl, k, rfl, hk, hno⟩
  refine ⟨fun hlt => ?_, fun hge => ?_⟩
  · have hlt : k < s.length := by omega
    rw [bt_32 hlt]
    have e1 : IntKind.i64.wrap ((k : Int) + 1) = ((k + 1 : Nat) : Int) := by rw [wrap64 (by omega) (by omega)]; omega
    refine ⟨⟨by omega, by omega⟩, fun hc => ?_, fun hc => ?_⟩
    · have hc := of_decide_eq_true hc
      rw [cut_hit hc hno, e1, sub_take, sub_drop]
      exact ⟨⟨by omega, by omega, by omega⟩, ⟨by omega, by omega, by omega⟩, rfl, rfl, rfl, rfl⟩
    · have hc := of_decide_eq_false hc
      rw [e1]
      rintro x rfl
      refine ⟨⟨rfl, k + 1, rfl, by omega, fun j hj => ?_⟩, by show ((s.length : Int) - ((k + 1 : Nat) : Int)).toNat < ((s.length : Int) - (k : Int)).toNat; omega⟩
      rcases Nat.lt_or_ge j k with h' | h'
      · exact hno j h'
      · obtain rfl : j = k := by omega
        exact hc
  · rw [cut_miss fun j hj => hno j (by omega)]
    exact ⟨rfl, rfl, rfl, rfl⟩

/-! ### Numbers -/
theorem dec_of_digits : ∀ (n : Nat) (s : Str), s.length = n → s ≠ [] → (∀ c ∈ s, isDig c = true) → (s.length = 1 ∨ s.head? ≠ some 48) → Lib.decDigits (dval s) = s ∧ (s.head? ≠ some 48 → 1 ≤ dval s)
  | 0, s, hn, hne, _, _ => absurd (List.eq_nil_of_length_eq_zero hn) hne
  | n + 1, s, hn, hne, hd, hz => by
    obtain ⟨l, c, rfl⟩ : ∃ l c, s = l ++ [c] := ⟨s.dropLast, s.getLast hne, (List.dropLast_concat_getLast hne).symm⟩
    have hc : isDig c = true := hd c (by simp)
    have hcd : 48 ≤ c.toNat ∧ c.toNat ≤ 57 := by unfold isDig at hc; simpa using hc
    have hc45 : c ≠ 45 := by rintro rfl; simp at hcd
    have hdv : dval (l ++ [c]) = 10 * dval l + (c.toNat - 48) := by rw [dval_snoc]; unfold dstep; rw [if_neg hc45]
    have hcb : UInt8.ofNat (48 + (c.toNat - 48)) = c := by
      rw [show 48 + (c.toNat - 48) = c.toNat by omega]; simp
    by_cases hl : l = []
    · subst hl
      rw [hdv]
      have : dval ([] : Str) = 0 := rfl
      rw [this, decDigits_small (by omega)]
      refine ⟨by rw [show 48 + (10 * 0 + (c.toNat - 48)) = 48 + (c.toNat - 48) by omega, hcb]; rfl, fun h => ?_⟩
      have : c ≠ 48 := by rintro rfl; exact h rfl
      have : c.toNat ≠ 48 := fun e => this (UInt8.toNat_inj.1 e)
      omega
    · have hh : (l ++ [c]).head? = l.head? := by
        cases l with
        | nil => exact absurd rfl hl
        | cons a l => rfl
      have hll : 0 < l.length := List.length_pos_iff.2 hl
      have hz' : l.head? ≠ some 48 := by
        rcases hz with h1 | h1
        · simp at h1; exact absurd h1 hl
        · rw [hh] at h1; exact h1
      obtain ⟨ih1, ih2⟩ := dec_of_digits n l (by simpa using hn) hl (fun x hx => hd x (by simp [hx])) (.inr hz')
      have h1 := ih2 hz'
      refine ⟨?_, fun _ => by rw [hdv]; omega⟩
      rw [hdv, decDigits_big (by omega), show (10 * dval l + (c.toNat - 48)) / 10 = dval l by omega, show (10 * dval l + (c.toNat - 48)) % 10 = c.toNat - 48 by omega, ih1, hcb]
theorem decDigits_head : ∀ (u : Nat), 1 ≤ u → (Lib.decDigits u).head? ≠ some 48 := by
  intro u
  induction u using Nat.strongRecOn with
  | _ u ih =>
    intro hu
    by_cases hb : u < 10
    · rw [decDigits_small hb]
      intro e
      injection e with e
      have := congrArg UInt8.toNat e
      rw [digit_nat u hb] at this
      have h2 : (48 : UInt8).toNat = 48 := rfl
      omega
    · rw [decDigits_big hb]
      have := ih (u / 10) (by omega) (by omega)
      have hp := decDigits_pos (u / 10)
      cases hd : Lib.decDigits (u / 10) with
      | nil => rw [hd] at hp; simp at hp
      | cons a l => rw [hd] at this; exact this
theorem numR_iff {s : Str} {n : Int} : numR s = some n ↔ s = Lib.itoa n ∧ 0 ≤ n ∧ n ≤ 1073741824 := by
  unfold numR
  constructor
  · intro h
    split at h
    · rename_i m hm
      split at h
      · rename_i hb
        injection h with h; subst h
        exact ⟨(numOf_iff (by omega) (by omega)).1 hm, hb⟩
      · cases h
    · cases h
  · rintro ⟨h1, h2, h3⟩
    rw [(numOf_iff (by omega) (by omega)).2 h1]
    simp only
    rw [if_pos ⟨h2, h3⟩]
theorem dval_lt : ∀ (k : Nat) (s : Str), (∀ c ∈ s, isDig c = true) → s.length = k → dval s < 10 ^ k
  | 0, s, _, h => by rw [List.eq_nil_of_length_eq_zero h]; simp [dval]
  | k + 1, s, hd, h => by
    have hne : s ≠ [] := fun e => by subst e; simp at h
    obtain ⟨l, c, rfl⟩ : ∃ l c, s = l ++ [c] := ⟨s.dropLast, s.getLast hne, (List.dropLast_concat_getLast hne).symm⟩
    have ih := dval_lt k l (fun x hx => hd x (by simp [hx])) (by simpa using h)
    have hc : isDig c = true := hd c (by simp)
    have hcd : 48 ≤ c.toNat ∧ c.toNat ≤ 57 := by unfold isDig at hc; simpa using hc
    rw [dval_snoc, Nat.pow_succ]
    unfold dstep
    split <;> omega
theorem Number31_ok {h : Hp} {s : Str} (X : Chain → Hp → Prop) : F_tenureref31_Number.call s h (fun n ok h' => ok = (numR s).isSome ∧ (∀ m, numR s = some m → n = m) ∧ h = h') X := by
  refine F_tenureref31_Number.sound ?_
  unfold F_tenureref31_Number.body
  have hno : ∀ {n : Int}, numR s = none → (false = (numR s).isSome ∧ (∀ m, numR s = some m → n = m) ∧ h = h) := fun e => ⟨by rw [e]; rfl, fun m hm => (by rw [e] at hm; cases hm), rfl⟩
  have hno2 : ∀ {n : Int}, numR s = none → (false = (numR s).isSome ∧ (∀ m, numR s = some m → n = m) ∧ True) := fun e => ⟨(hno (n := 0) e).1, fun m hm => (by rw [e] at hm; cases hm), trivial⟩
  refine ⟨fun hc => ⟨by omega, by omega⟩, fun hc => ?_, fun hc => ?_⟩
  · refine hno ?_
    cases hn : numR s with
    | none => rfl
    | some m =>
      exfalso
      obtain ⟨h1, h2, h3⟩ := numR_iff.1 hn
      have hit : Lib.itoa m = Lib.decDigits m.toNat := by unfold Lib.itoa; rw [if_neg (by omega)]
      rw [hit] at h1
      have hl := decDigits_le 9 m.toNat (by omega)
      have hp := decDigits_pos m.toNat
      rw [← h1] at hl hp
      simp only [Bool.or_eq_true, Bool.and_eq_true, decide_eq_true_eq] at hc
      rcases hc with (hc | hc) | ⟨hc1, hc2⟩
      · have : s = [] := by simpa [cmpS] using hc
        rw [this] at hp; simp at hp
      · omega
      · have hlt : 0 < s.length := by omega
        have hh : s.head? = some 48 := by
          rw [show (0 : Int) = ((0 : Nat) : Int) from rfl, bt_nat hlt, show (48 : Int) = (((48 : UInt8).toNat : Nat) : Int) from rfl, u8_int] at hc2
          have := of_decide_eq_true hc2
          cases s with
          | nil => simp at hlt
          | cons a l => simp at this; rw [this]; rfl
        by_cases hm0 : 1 ≤ m.toNat
        · have := decDigits_head m.toNat hm0
          rw [← h1] at this
          exact this hh
        · have : m.toNat = 0 := by omega
          rw [this, decDigits_small (by omega)] at h1
          rw [h1] at hc1; simp at hc1
  · simp only [Bool.or_eq_false_iff, decide_eq_false_iff_not] at hc
    obtain ⟨⟨hne, hl10⟩, hz⟩ := hc
    have hne : s ≠ [] := by simpa [cmpS] using hne
    have hsl : s.length ≤ 10 := by omega
    have hlp : 0 < s.length := List.length_pos_iff.2 hne
    have hz' : s.length = 1 ∨ s.head? ≠ some 48 := by
      by_cases h1 : s.length = 1
      · exact .inl h1
      · right
        intro hh
        rw [decide_eq_true (show (s.length : Int) > 1 by omega), Bool.true_and, show (0 : Int) = ((0 : Nat) : Int) from rfl, bt_nat hlp, show (48 : Int) = (((48 : UInt8).toNat : Nat) : Int) from rfl, u8_int] at hz
        have := of_decide_eq_false hz
        cases s with
        | nil => simp at hlp
        | cons a l => simp at hh; exact this (by simpa using hh)
    refine ⟨fun st g => h = g ∧ ∃ k : Nat, st.2 = (k : Int) ∧ k ≤ s.length ∧ st.1 = ((dval (s.take k) : Nat) : Int) ∧ (∀ c ∈ s.take k, isDig c = true), fun st _ => ((s.length : Int) - st.2).toNat, ⟨rfl, 0, rfl, by omega, by simp [dval], by simp⟩, ?_⟩
    rintro ⟨_, _⟩ _ ⟨rfl, k, rfl, hk, rfl, hdg⟩
    simp only
    have hb : dval (s.take k) < 10 ^ 10 := Nat.lt_of_lt_of_le (dval_lt k (s.take k) hdg (by rw [List.length_take]; omega)) (Nat.pow_le_pow_right (by omega) (by omega))
    refine ⟨fun hlt => ?_, fun hge => ?_⟩
    · have hlt : k < s.length := by omega
      rw [bt_nat hlt]
      generalize hcv : s[k] = c
      have hcm : c ∈ s := by rw [← hcv]; exact List.getElem_mem hlt
      refine ⟨⟨by omega, by omega⟩, fun _ => ⟨by omega, by omega⟩, fun hc => ?_, fun hc => ⟨⟨by omega, by omega⟩, ?_⟩⟩
      · refine hno2 ?_
        cases hn : numR s with
        | none => rfl
        | some m =>
          exfalso
          obtain ⟨h1, h2, h3⟩ := numR_iff.1 hn
          have hit : Lib.itoa m = Lib.decDigits m.toNat := by unfold Lib.itoa; rw [if_neg (by omega)]
          rw [hit] at h1
          have := decDigits_digits m.toNat c (by rw [← h1]; exact hcm)
          simp only [Bool.or_eq_true, decide_eq_true_eq] at hc
          omega
      · simp only [Bool.or_eq_false_iff, decide_eq_false_iff_not] at hc
        have hdc : 48 ≤ c.toNat ∧ c.toNat ≤ 57 := by omega
        have hc45 : c ≠ 45 := by rintro rfl; simp at hdc
        rintro x13 hx13 x14 hx14
        rw [wrapu8 (by omega) (by omega), wrap64 (x := (c.toNat : Int) - 48) (by omega) (by omega), wrap64 (x := 10 * ((dval (s.take k) : Nat) : Int)) (by omega) (by omega), wrap64 (by omega) (by omega)] at hx13
        rw [wrap64 (by omega) (by omega)] at hx14
        subst hx13 hx14
        have htk : s.take (k + 1) = s.take k ++ [c] := by rw [List.take_succ_eq_append_getElem hlt, hcv]
        refine ⟨⟨trivial, k + 1, by show (k : Int) + 1 = ((k + 1 : Nat) : Int); omega, by omega, ?_, ?_⟩, by show ((s.length : Int) - ((k : Int) + 1)).toNat < ((s.length : Int) - (k : Int)).toNat; omega⟩
        · show 10 * ((dval (s.take k) : Nat) : Int) + ((c.toNat : Int) - 48) = _
          rw [htk, dval_snoc]
          unfold dstep
          rw [if_neg hc45]; omega
        · rw [htk]
          intro y hy
          rcases List.mem_append.1 hy with hy | hy
          · exact hdg y hy
          · simp at hy; subst hy
            unfold isDig
            simp [hdc]
    · have hkl : k = s.length := by omega
      subst hkl
      rw [List.take_length] at hdg ⊢
      obtain ⟨h1, _⟩ := dec_of_digits _ s rfl hne hdg hz'
      have hit : Lib.itoa ((dval s : Nat) : Int) = s := by
        unfold Lib.itoa; rw [if_neg (by omega)]; exact h1
      by_cases hle : ((dval s : Nat) : Int) ≤ 1073741824
      · have : numR s = some ((dval s : Nat) : Int) := numR_iff.2 ⟨hit.symm, by omega, hle⟩
        rw [this, decide_eq_true hle]
        exact ⟨rfl, (fun m hm => by injection hm), trivial⟩
      · rw [decide_eq_false hle]
        refine hno2 ?_
        cases hn : numR s with
        | none => rfl
        | some m =>
          exfalso
          obtain ⟨h4, h2, h3⟩ := numR_iff.1 hn
          have := dval_itoa m
          rw [← h4] at this
          omega
end Go.Proofs.YtefbonjcpdjhcaaGreatDoor.X

/- Stage 2: the document's lines: which deed a line says. -/
set_option linter.unusedVariables false
set_option maxRecDepth 100000
namespace Go.Proofs.YtefbonjcpdjhcaaGreatDoor.X
open Go Go.RowKit

theorem chk_all {t : Tm} (h : chk t = 0) : (pre t).all soundT = true := by
  unfold chk at h
  split at h
  · assumption
  · cases h
theorem sound_cons {u : Tm} (h : soundT u = true) (hk : u.kind = 9) : u.l.length = 2 := by
  unfold soundT soundB at h
  rw [hk] at h
  rw [if_neg (by decide), if_neg (by decide), if_neg (by decide), if_neg (by decide), if_neg (by decide), if_neg (by decide), if_pos rfl] at h
  simp only [Bool.and_eq_true, beq_iff_eq] at h
  omega
/-- What the lists need of what was read. -/
theorem readT_lists (s : Str) : (∀ u ∈ pre ((readT s).getD zeroT), u.kind = 9 → u.l.length = 2) ∧ (pre ((readT s).getD zeroT)).length ≤ s.length + 1 := by
  cases h : readT s with
  | none =>
    refine ⟨fun u hu hk => ?_, by simp [zeroT, pre, preL]⟩
    simp [zeroT, pre, preL] at hu
    subst hu
    cases hk
  | some t =>
    obtain ⟨_, h2, h3⟩ := readT_some h
    have := pRead_num h2
    exact ⟨fun u hu hk => sound_cons (List.all_eq_true.1 (chk_all h3) u hu) hk, by show (pre t).length ≤ _; omega⟩
theorem spawn31_ok {h : Hp} {rest : Str} (hs : Small rest) (hs' : rest.length ≤ 1000000) (X : Chain → Hp → Prop) :
    F_tenureref31_spawn.call rest h (fun x ok h' => ok = (pNamedD rest).isSome ∧ (∀ a l, pNamedD rest = some (a, l) → RepD h' (fun b => h.size ≤ b) x ⟨1, 0, a, zeroT, l⟩) ∧ Fr [] h h') X := by
  refine F_tenureref31_spawn.sound ?_
  unfold F_tenureref31_spawn.body
  intro p1 h2 hn1 ev1
  have hn1' := hn1.1
  have hn1'' := hn1.2
  have hsm : rest.length ≤ 1048576 := hs
  have f2 : Fr [] h h2 := (Fr.refl [] h).ev ev1 (one_ge hn1.1)
  refine ⟨fun s g => ∃ i : Nat, s.1 = (i : Int) ∧ i ≤ rest.length ∧ (∀ j, j < i → nmAt rest j = none) ∧ Fr [] h g ∧ h2.size ≤ g.size, fun s _ => ((rest.length : Int) - s.1).toNat, ⟨0, rfl, Nat.zero_le _, fun j hj => by omega, f2, Nat.le_refl _⟩, ?_⟩
  rintro ⟨_, d⟩ h4 ⟨i, hi0, hil, hno, f4, hs4⟩
  simp only at hi0 ⊢
  subst hi0
  refine ⟨fun hlt => ?_, fun hge => ?_⟩
  · have hlt : i < rest.length := by omega
    refine ⟨fun d' g' => nmAt rest i = none ∧ Fr [] h g' ∧ h2.size ≤ g'.size, ⟨⟨by omega, by omega⟩, fun hb => ?_, fun hb => ?_⟩, ?_⟩
    · have hb : ¬ bt rest (i : Int) = 32 := by simpa using hb
      exact ⟨by unfold nmAt; rw [if_neg hb], f4, hs4⟩
    · have hb : bt rest (i : Int) = 32 := by simpa using hb
      have hnm : nmAt rest i = namedAt rest i := by unfold nmAt; rw [if_pos hb]
      rw [hnm, sub_take]
      refine ⟨⟨by omega, by omega, by omega⟩, fun hL4 => ?_⟩
      refine F_tenureref05_Read.mono (Read05_ok (hs.take i) _) ?_ fun _ _ h => h
      rintro r12 r13 h14 ⟨he1, hr12, f14⟩
      have e1 : IntKind.i64.wrap ((i : Int) + 1) = ((i + 1 : Nat) : Int) := by rw [wrap64 (by omega) (by omega)]; omega
      rw [e1, sub_drop]
      refine ⟨f14.sameOn hL4 (by simp), ⟨by omega, by omega, by omega⟩, fun p15 h17 hn15 ev15 hL17 => ?_⟩
      have hn15' := hn15.1
      have hn15'' := hn15.2
      have hs14 := f14.1
      have f14' := f4.step f14
      have f17 : Fr [] h h17 := f14'.trans ev15.fr (fun y hy => .inr (by simp at hy; omega))
      refine F_tenureref05_Read.mono (Read05_ok (hs.drop (i + 1)) _) ?_ fun _ _ h => h
      rintro r19 r20 h21 ⟨he2, hr19, f21⟩
      have hs17 := ev15.size
      have hs21 := f21.1
      have f21' := f17.step f21
      refine ⟨f21.sameOn hL17 (by simp), fun p22 h24 hn22 ev22 hL24 => ?_⟩
      have hn22' := hn22.1
      have hr19' := RepT.bound _ _ hr19
      have hr24 := RepT.fr ev22.fr (fun b hb hm => by simp at hm; omega) _ _ hr19'
      have f24 : Fr [] h h24 := f21'.trans ev22.fr (fun y hy => .inr (by simp at hy; omega))
      have hs24 := ev22.size
      obtain ⟨hl1, hl2⟩ := readT_lists (rest.drop (i + 1))
      refine F_tenureref31_items.mono (items31_ok (fun b hb => by omega) hr24 (by rw [List.length_drop] at hl2; omega) hl1 _) ?_ fun _ _ h => h
      rintro r25 r26 h27 ⟨rfl, hit, f27⟩
      have hs27 := f27.1
      have f27' := f24.step f27
      refine ⟨f27.sameOn hL24 (by simp), fun hc h31 ev31 => ?_, fun hc => ?_⟩
      · simp only [Bool.and_eq_true] at hc
        obtain ⟨⟨⟨c1, c2⟩, c3⟩, c4⟩ := hc
        rw [he1] at c1
        rw [he2] at c2
        obtain ⟨a, ha⟩ := Option.isSome_iff_exists.1 c1
        obtain ⟨l, hl⟩ := Option.isSome_iff_exists.1 c2
        rw [ha] at hr12
        rw [hl] at c4 hit
        have hr12 : RepT h14 (fun b => h4.size ≤ b) r12 a := hr12
        have c3 : r12.Kind = 2 := by simpa using c3
        have hka : a.kind = 2 := by rw [← hr12.fields.1]; exact c3
        have hna : namedAt rest i = (itemsT l).map fun x => (a.s, x) := by unfold namedAt; rw [ha, hl]; simp only; rw [if_pos hka]
        obtain ⟨x, hx⟩ := Option.isSome_iff_exists.1 c4
        have hx : itemsT l = some x := hx
        rw [hx] at hna
        have hfin : pNamedD rest = some (a.s, x) := findSome_first hlt hno (by rw [hnm, hna]; rfl)
        refine ⟨by rw [hfin]; rfl, fun a' l' he => ?_, f27'.trans ev31.fr (fun y hy => .inr (by simp at hy; omega))⟩
        rw [hfin] at he
        injection he with he; injection he with he1 he2; subst he1 he2
        obtain ⟨vs, hv1, hv2⟩ := hit x hx
        have hne : ∀ b, ((h17.size ≤ b ∧ b < h21.size) ∨ h24.size ≤ b) → b ∉ [p22, p15, p1] := fun b hb hm => by have := hn22.2; simp at hm; omega
        refine ⟨rfl, rfl, hr12.fields.2.2.1, RepT.zero _ _, vs, (hv1.fr ev31.fr hne).mono (fun b hb => by omega), RepL.mono (fun b hb => by omega) _ _ (RepL.fr ev31.fr hne _ _ hv2)⟩
      · refine ⟨?_, f27', by omega⟩
        unfold namedAt
        cases ha : readT (rest.take i) with
        | none => rfl
        | some a =>
          cases hl : readT (rest.drop (i + 1)) with
          | none => rfl
          | some l =>
            rw [ha] at he1 hr12
            rw [hl] at he2 hc
            have hr12 : RepT h14 (fun b => h4.size ≤ b) r12 a := hr12
            simp only
            by_cases hka : a.kind = 2
            · rw [if_pos hka]
              have hk2 : r12.Kind = 2 := by rw [hr12.fields.1]; exact hka
              rw [he1, he2, hk2] at hc
              have hc : (itemsT l).isSome = false := hc
              cases hx : itemsT l with
              | none => rfl
              | some x => rw [hx] at hc; cases hc
            · rw [if_neg hka]
    · rintro d' g' ⟨hnm, f', hs'⟩
      have e1 : IntKind.i64.wrap ((i : Int) + 1) = ((i + 1 : Nat) : Int) := by rw [wrap64 (by omega) (by omega)]; omega
      rintro x32 hx32
      rw [e1] at hx32
      subst hx32
      refine ⟨⟨i + 1, rfl, by omega, fun j hj => ?_, f', hs'⟩, ?_⟩
      · rcases Nat.lt_or_ge j i with h' | h'
        · exact hno j h'
        · obtain rfl : j = i := by omega
          exact hnm
      · show ((rest.length : Int) - ((i + 1 : Nat) : Int)).toNat < ((rest.length : Int) - (i : Int)).toNat
        omega
  · intro h31 ev31
    have hfin : pNamedD rest = none := findSome_none fun j hj => hno j (by omega)
    exact ⟨by rw [hfin]; rfl, (fun a l he => by rw [hfin] at he; cases he), f4.trans ev31.fr (fun y hy => .inr (by simp at hy; omega))⟩

/-! ### The words' numbers -/
def kindList : List Str := [[115, 112, 97, 119, 110], [115, 116, 101, 112], [115, 101, 110, 100], [101, 120, 105, 116], [99, 111, 108, 108, 101, 99, 116], [112, 97, 115, 115], [114, 111, 117, 110, 100], [114, 117, 110], [115, 101, 116, 116, 108, 101]]
def kfold (w : Str) (k : Nat) : Int := (List.range k).foldl (fun (a : Int) (j : Nat) => if kindList[j]? = some w then (j : Int) + 1 else a) 0
theorem kfold_succ (w : Str) (k : Nat) : kfold w (k + 1) = if kindList[k]? = some w then (k : Int) + 1 else kfold w k := by
  unfold kfold
  rw [List.range_succ, List.foldl_append]; rfl
theorem kfold_find (w : Str) : kfold w 9 = match wFind w with | none => 0 | some x => x.1 := by
  by_cases h1 : w = [115, 112, 97, 119, 110]
  · subst h1; decide
  by_cases h2 : w = [115, 116, 101, 112]
  · subst h2; decide
  by_cases h3 : w = [115, 101, 110, 100]
  · subst h3; decide
  by_cases h4 : w = [101, 120, 105, 116]
  · subst h4; decide
  by_cases h5 : w = [99, 111, 108, 108, 101, 99, 116]
  · subst h5; decide
  by_cases h6 : w = [112, 97, 115, 115]
  · subst h6; decide
  by_cases h7 : w = [114, 111, 117, 110, 100]
  · subst h7; decide
  by_cases h8 : w = [114, 117, 110]
  · subst h8; decide
  by_cases h9 : w = [115, 101, 116, 116, 108, 101]
  · subst h9; decide
  have hw : wFind w = none := by
    unfold wFind
    rw [if_neg h1, if_neg h2, if_neg h3, if_neg h4, if_neg h5, if_neg h6, if_neg h7, if_neg h8, if_neg h9]
  rw [hw]
  simp only [kfold_succ]
  have hk : ∀ (j : Nat) (x : Str), kindList[j]? = some x → x ≠ w → ¬ kindList[j]? = some w := fun j x hj hx e => by rw [hj] at e; injection e with e; exact hx e
  rw [if_neg (hk 8 _ rfl fun e => h9 e.symm), if_neg (hk 7 _ rfl fun e => h8 e.symm), if_neg (hk 6 _ rfl fun e => h7 e.symm), if_neg (hk 5 _ rfl fun e => h6 e.symm), if_neg (hk 4 _ rfl fun e => h5 e.symm), if_neg (hk 3 _ rfl fun e => h4 e.symm), if_neg (hk 2 _ rfl fun e => h3 e.symm), if_neg (hk 1 _ rfl fun e => h2 e.symm), if_neg (hk 0 _ rfl fun e => h1 e.symm)]
  rfl
theorem wFind_flags {w : Str} {k : Int} {na te : Bool} (h : wFind w = some (k, na, te)) : na = decide (k = 1) ∧ te = decide (k = 3 ∨ k = 4) ∧ k ≠ 0 := by
  unfold wFind at h
  repeat' split at h
  all_goals first
    | (injection h with h; injection h with h1 h2; injection h2 with h2 h3; subst h1 h2 h3; decide)
    | cases h
theorem kinds31_ok (h : Hp) (X : Chain → Hp → Prop) : F_tenureref31_kinds.call h (fun x h' => x.len = 9 ∧ RepS cS h' (fun _ => True) x kindList ∧ Fr [] h h') X := by
  refine F_tenureref31_kinds.sound ?_
  unfold F_tenureref31_kinds.body
  intro p h2 hp e2
  have b2 : Blk h2 p (cellsOf cS kindList) 9 := Blk.new hp e2
  exact ⟨rfl, ⟨rfl, Nat.le_refl _, fun _ => ⟨p, 0, rfl, trivial, b2.cells0 (List.take_of_length_le (Nat.le_refl _))⟩⟩, Fr.push e2⟩
theorem Parse31_ok {h : Hp} {line : Str} (hs : Small line) (X : Chain → Hp → Prop) :
    F_tenureref31_Parse.call line h (fun x e h' => e = (pParse line).2 ∧ RepD h' (fun b => h.size ≤ b) x (pParse line).1 ∧ Fr [] h h') X := by
  refine F_tenureref31_Parse.sound ?_
  unfold F_tenureref31_Parse.body
  have hsm : line.length ≤ 1048576 := hs
  refine ⟨fun hlong p1 h3 hn ev => ?_, fun hshort p1 h2 hn1 ev1 hL2 => ?_⟩
  · have : pParse line = (zeroD, 3) := by unfold pParse; rw [if_pos (by omega)]
    rw [this]
    exact ⟨rfl, RepD.zero _ _, (Fr.refl [] h).ev ev (one_ge hn.1)⟩
  · have hn1' := hn1.1
    have hn1'' := hn1.2
    have f2 : Fr [] h h2 := (Fr.refl [] h).ev ev1 (one_ge hn1.1)
    have hl4 : line.length ≤ 4000 := by omega
    refine F_tenureref31_Cut.mono (Cut31_ok hs _) ?_ fun _ _ h => h
    rintro r4 r5 r6 _ ⟨rfl, rfl, rfl, rfl⟩
    obtain ⟨hsw, hsr⟩ := cut_small (sep := [32]) hs
    have hrl : (Lib.cut line [32]).2.1.length ≤ 4000 := by
      unfold Lib.cut
      split
      · simp only [List.length_drop]; omega
      · simp
    have hpp : pParse line = match wFind (Lib.cut line [32]).1 with
        | none => (zeroD, 6)
        | some w => match pDeed w (Lib.cut line [32]).2.1 with
          | none => (zeroD, 4)
          | some d => if (Lib.cut line [32]).2.2 = true then (d, 0) else (zeroD, 4) := by
      unfold pParse; rw [if_neg (by omega)]
      all_goals
        cases wFind (Lib.cut line [32]).1 with
        | none => rfl
        | some w => cases pDeed w (Lib.cut line [32]).2.1 <;> rfl
    generalize (Lib.cut line [32]).1 = word at *
    generalize (Lib.cut line [32]).2.1 = rest at *
    generalize (Lib.cut line [32]).2.2 = more at *
    refine ⟨fun _ _ => rfl, ?_⟩
    refine ⟨fun st g => ∃ k : Nat, st.2 = (k : Int) ∧ k ≤ 9 ∧ st.1 = kfold word k ∧ Fr [] h g ∧ h2.size ≤ g.size, fun st _ => (9 - st.2).toNat, ⟨0, rfl, by omega, rfl, f2, Nat.le_refl _⟩, ?_⟩
    rintro ⟨_, _⟩ h9 ⟨k, rfl, hk, rfl, f9, hs9⟩
    simp only
    intro hL9
    refine F_tenureref31_kinds.mono (kinds31_ok _ _) ?_ fun _ _ h => h
    rintro r12 h13 ⟨hl12, hrep12, f13⟩
    have hs13 := f13.1
    have f13' := f9.step f13
    have hlw : kindList.length = 9 := rfl
    refine ⟨f13.sameOn hL9 (by simp), fun hlt => ?_, fun hge => ?_⟩
    · have hlt : k < 9 := by omega
      refine ⟨fun x g => x = kfold word (k + 1) ∧ Fr [] h g ∧ h2.size ≤ g.size, fun hL13 => ?_, ?_⟩
      · refine F_tenureref31_kinds.mono (kinds31_ok _ _) ?_ fun _ _ h => h
        rintro r17 h18 ⟨hl17, hrep17, f18⟩
        have hs18 := f18.1
        refine ⟨f18.sameOn hL13 (by simp), ?_⟩
        have hw : kindList[k]? = some kindList[k] := List.getElem?_eq_getElem (by omega)
        obtain ⟨a, ha, hc⟩ := hrep17.get (k := 1) (fun _ => rfl) hw
        refine IdxW.of (by omega) ha ⟨kindList[k], hc, fun heq => ?_, fun hne => ?_⟩
        · have heq : kindList[k] = word := by simpa [cmpS] using heq
          rintro x22 hx22
          rw [wrap64 (by omega) (by omega)] at hx22
          refine ⟨?_, f13'.step f18, by omega⟩
          rw [kfold_succ, hw, heq, if_pos rfl, hx22]
        · have hne : ¬ kindList[k] = word := by simpa [cmpS] using hne
          refine ⟨?_, f13'.step f18, by omega⟩
          rw [kfold_succ, hw, if_neg (fun e => hne (by injection e))]
      · rintro x g ⟨rfl, fg, hsg⟩
        rintro x23 hx23
        rw [wrap64 (by omega) (by omega)] at hx23
        subst hx23
        exact ⟨⟨k + 1, by show (k : Int) + 1 = ((k + 1 : Nat) : Int); omega, by omega, rfl, fg, hsg⟩, by show (9 - ((k : Int) + 1)).toNat < (9 - (k : Int)).toNat; omega⟩
    · have hk9 : k = 9 := by omega
      subst hk9
      rw [kfold_find]
      cases hw : wFind word with
      | none =>
        rw [hw] at hpp
        refine ⟨fun _ h24 ev24 => ?_, fun e => (by simp at e)⟩
        rw [hpp]
        exact ⟨rfl, RepD.zero _ _, f13'.trans ev24.fr (fun y hy => .inr (by simp at hy; omega))⟩
      | some w =>
        obtain ⟨kd, na, te⟩ := w
        obtain ⟨hna, hte, hk0⟩ := wFind_flags hw
        rw [hw] at hpp
        simp only at hpp ⊢
        refine ⟨fun e => absurd (by simpa using e) hk0, fun _ => ⟨fun hm h25 ev25 => ?_, fun hm => ?_⟩⟩
        · have hm : more = false := by simpa using hm
          subst hm
          have hp : pParse line = (zeroD, 4) := by
            rw [hpp]
            cases pDeed (kd, na, te) rest <;> rfl
          rw [hp]
          exact ⟨rfl, RepD.zero _ _, f13'.trans ev25.fr (fun y hy => .inr (by simp at hy; omega))⟩
        · have hm : more = true := by simpa using hm
          subst hm
          have hpp : pParse line = match pDeed (kd, na, te) rest with | none => (zeroD, 4) | some d => (d, 0) := by
            rw [hpp]
            cases pDeed (kd, na, te) rest <;> rfl
          intro p26 h28 hn26 ev28
          have hn26' := hn26.1
          have hn26'' := hn26.2
          have hs28 := ev28.size
          have hbox : ∀ y ∈ [p26, p1], h.size ≤ y := two_ge (by omega) (by omega)
          have f28 : Fr [] h h28 := f13'.trans ev28.fr (fun y hy => .inr (hbox y hy))
          have hne : ∀ b, h28.size ≤ b → b ∉ [p26, p1] := fun b hb hm => by simp at hm; omega
          have so : ∀ {a b : Hp}, Fr [] a b → LtAll [p26, p1] a → SameOn [p26, p1] a b := fun f hl => f.sameOn hl (by simp)
          refine ⟨fun s gg => s.1 = (pDeed (kd, na, te) rest).isSome ∧ (∀ d, pDeed (kd, na, te) rest = some d → RepD gg (fun b => h28.size ≤ b) s.2 d) ∧ Fr [] h gg ∧ h28.size ≤ gg.size, ⟨fun h1 hL28 => ?_, fun h1 => ?_⟩, ?_⟩
          · have h1 : kd = 1 := by simpa using h1
            have hna : na = true := by rw [hna, h1]; rfl
            refine F_tenureref31_spawn.mono (spawn31_ok hsr (by omega) _) ?_ fun _ _ h => h
            rintro x ok h34 ⟨rfl, hd, f34⟩
            refine ⟨so f34 hL28, fun h35 ev35 => ?_⟩
            have hpd : pDeed (kd, na, te) rest = (pNamedD rest).map fun x => ⟨1, 0, x.1, zeroT, x.2⟩ := by unfold pDeed; rw [if_pos hna]
            rw [hpd]
            refine ⟨by simp, fun d hd' => ?_, (f28.step f34).trans ev35.fr (fun y hy => .inr (hbox y hy)), by have := f34.1; have := ev35.size; omega⟩
            obtain ⟨⟨a, l⟩, hx, rfl⟩ := map_some.1 hd'
            exact (hd a l hx).fr ev35.fr hne
          · have h1 : ¬ kd = 1 := by simpa using h1
            have hna : na = false := by rw [hna]; exact decide_eq_false h1
            refine ⟨fun y g => h28 = g ∧ y = te, ⟨fun h3 => ⟨rfl, ?_⟩, fun h3 => ⟨rfl, ?_⟩⟩, ?_⟩
            · have h3' : kd = 3 := by simpa using h3
              rw [h3, hte, h3']; rfl
            · have h3 : ¬ kd = 3 := by simpa using h3
              rw [hte, Bool.eq_iff_iff]; simp [h3]
            · rintro y _ ⟨rfl, rfl⟩
              refine ⟨fun hy hL28 => ?_, fun hy hL28 => ?_⟩
              · subst hy
                refine F_tenureref31_Cut.mono (Cut31_ok hsr _) ?_ fun _ _ h => h
                rintro r27 r28 r29 _ ⟨rfl, rfl, rfl, rfl⟩
                obtain ⟨hsn, hsb⟩ := cut_small (sep := [32]) hsr
                have hpd : pDeed (kd, na, true) rest = match numR (Lib.cut rest [32]).1, readT (Lib.cut rest [32]).2.1 with
                    | some n, some t => if (Lib.cut rest [32]).2.2 = true then some ⟨kd, n, [], t, []⟩ else none
                    | _, _ => none := by unfold pDeed; rw [if_neg (by rw [hna]; simp), if_pos rfl]; all_goals cases numR (Lib.cut rest [32]).1 <;> cases readT (Lib.cut rest [32]).2.1 <;> rfl
                rw [hpd]
                generalize (Lib.cut rest [32]).1 = nn at *
                generalize (Lib.cut rest [32]).2.1 = behind at *
                generalize (Lib.cut rest [32]).2.2 = two at *
                refine ⟨fun _ _ => rfl, fun _ => ?_⟩
                refine F_tenureref31_Number.mono (Number31_ok _) ?_ fun _ _ h => h
                rintro n ok _ ⟨rfl, hnum, rfl⟩
                refine ⟨fun _ _ => rfl, fun h46 ev46 hL46 => ?_⟩
                have hs46 := ev46.size
                have f46 : Fr [] h h46 := f28.trans ev46.fr (fun y hy => .inr (hbox y hy))
                refine F_tenureref05_Read.mono (Read05_ok hsb _) ?_ fun _ _ h => h
                rintro r47 r48 h49 ⟨he, hr47, f49⟩
                refine ⟨so f49 hL46, fun h50 ev50 => ?_⟩
                have hs49 := f49.1
                refine ⟨?_, fun d hd => ?_, (f46.step f49).trans ev50.fr (fun y hy => .inr (hbox y hy)), by have := ev50.size; omega⟩
                · show (((numR nn).isSome && two) && (r48 == 0)) = _
                  rw [he]
                  cases numR nn with
                  | none => rfl
                  | some n =>
                    cases readT behind with
                    | none => cases two <;> rfl
                    | some t => cases two <;> rfl
                · cases hn : numR nn with
                  | none => rw [hn] at hd; cases hd
                  | some m =>
                    cases ht : readT behind with
                    | none => rw [hn, ht] at hd; cases hd
                    | some t =>
                      rw [hn, ht] at hd
                      simp only at hd
                      split at hd
                      · injection hd with hd; subst hd
                        rw [ht] at hr47
                        exact ⟨rfl, hnum m hn, rfl, RepT.mono (fun b hb => by omega) _ _ (RepT.fr ev50.fr (fun b hb => hne b (by omega)) _ _ hr47), [], RepS.nil, trivial⟩
                      · cases hd
              · subst hy
                refine F_tenureref31_Number.mono (Number31_ok _) ?_ fun _ _ h => h
                rintro n ok _ ⟨rfl, hnum, rfl⟩
                refine ⟨fun _ _ => rfl, fun h56 ev56 => ?_⟩
                have hpd : pDeed (kd, na, false) rest = (numR rest).map fun n => ⟨kd, n, [], zeroT, []⟩ := by unfold pDeed; rw [if_neg (by rw [hna]; simp), if_neg (by simp)]
                rw [hpd]
                refine ⟨by simp, fun d hd => ?_, f28.trans ev56.fr (fun y hy => .inr (hbox y hy)), ev56.size⟩
                obtain ⟨m, hm, rfl⟩ := map_some.1 hd
                exact ⟨rfl, hnum m hm, rfl, RepT.zero _ _, [], RepS.nil, trivial⟩
          · rintro ⟨ok, x⟩ gg ⟨hok, hd, fgg, hsgg⟩
            simp only at hok hd ⊢
            subst hok
            cases hdd : pDeed (kd, na, te) rest with
            | none =>
              rw [hdd] at hpp
              refine ⟨fun _ h57 ev57 => ?_, fun e => (by cases e)⟩
              rw [hpp]
              exact ⟨rfl, RepD.zero _ _, fgg.trans ev57.fr (fun y hy => .inr (hbox y hy))⟩
            | some d =>
              rw [hdd] at hpp
              refine ⟨fun e => (by cases e), fun _ h58 ev58 => ?_⟩
              rw [hpp]
              exact ⟨rfl, ((hd d hdd).fr ev58.fr hne).mono (fun b hb => by omega), fgg.trans ev58.fr (fun y hy => .inr (hbox y hy))⟩
end Go.Proofs.YtefbonjcpdjhcaaGreatDoor.X

/- Stage 2: the statement ScriptParses, as a call. -/
set_option linter.unusedVariables false
set_option maxRecDepth 100000
namespace Go.Proofs.YtefbonjcpdjhcaaGreatDoor.X
open Go Go.RowKit

/-! ### The same terms -/
def SameC (n : Nat) : Prop := ∀ (t : Tm), (pre t).length ≤ n → ∀ (v w : TV) (h : Hp) (P Q : Nat → Prop) (X : Chain → Hp → Prop), RepT h P v t → RepT h Q w t → F_tenurekit_SameTerm.call v w h (fun r h' => r = true ∧ Fr [] h h') X
theorem SameTerms_ok {n : Nat} (hS : SameC n) (hn : n ≤ 1048576) {ts : List Tm} (hl : (preL ts).length ≤ n) {x y : Sl} {vs us : List TV} {h : Hp} {P Q : Nat → Prop} (hx : RepS tc h P x vs) (hvs : RepL h P vs ts) (hy : RepS tc h Q y us) (hus : RepL h Q us ts) (X : Chain → Hp → Prop) :
    F_tenurekit_SameTerms.call x y h (fun r h' => r = true ∧ Fr [] h h') X := by
  refine F_tenurekit_SameTerms.sound ?_
  unfold F_tenurekit_SameTerms.body
  have h1 := RepL.length _ _ hvs
  have h2 := RepL.length _ _ hus
  have h3 := hx.1
  have h4 := hy.1
  have h5 := preL_len ts
  refine ⟨fun hc => ?_, fun _ => ?_⟩
  · exfalso
    have : (x.len : Int) = (y.len : Int) := by omega
    simp [this] at hc
  refine ⟨fun i g => ∃ k : Nat, i = (k : Int) ∧ k ≤ ts.length ∧ Fr [] h g, fun i _ => ((ts.length : Int) - i).toNat, ⟨0, rfl, by omega, Fr.refl _ _⟩, ?_⟩
  rintro _ g ⟨k, rfl, hk, fg⟩
  refine ⟨fun hlt => ?_, fun _ => ⟨rfl, fg⟩⟩
  have hlt : k < ts.length := by omega
  have hvk : vs[k]? = some vs[k] := List.getElem?_eq_getElem (by omega)
  have huk : us[k]? = some us[k] := List.getElem?_eq_getElem (by omega)
  obtain ⟨t, ht, hvt⟩ := RepL.get' _ _ k _ hvs hvk
  obtain ⟨t', ht', hut⟩ := RepL.get' _ _ k _ hus huk
  rw [ht] at ht'; injection ht' with ht'; subst ht'
  obtain ⟨a, ha, hca⟩ := (hx.fr fg (by simp)).get tc_len hvk
  obtain ⟨b, hb, hcb⟩ := (hy.fr fg (by simp)).get tc_len huk
  refine IdxW.of (by omega) ha ⟨vs[k], hca, IdxW.of (by omega) hb ⟨us[k], hcb, ?_⟩⟩
  refine F_tenurekit_SameTerm.mono (hS t (Nat.le_trans (preL_get _ _ _ ht) hl) _ _ g _ _ X (RepT.fr fg (by simp) _ _ hvt) (RepT.fr fg (by simp) _ _ hut)) ?_ fun _ _ h => h
  rintro r h10 ⟨rfl, f10⟩
  refine ⟨fun e => (by cases e), fun _ x11 hx11 => ?_⟩
  rw [wrap64 (by omega) (by omega)] at hx11
  subst hx11
  exact ⟨⟨k + 1, by omega, by omega, fg.step f10⟩, by show ((ts.length : Int) - ((k : Int) + 1)).toNat < ((ts.length : Int) - (k : Int)).toNat; omega⟩
theorem SameTerm_all : ∀ (n : Nat), n ≤ 1048576 → SameC n := by
  intro n
  induction n using Nat.strongRecOn with
  | _ n ih =>
    intro hn t ht v w h P Q X hv hw
    refine F_tenurekit_SameTerm.sound ?_
    unfold F_tenurekit_SameTerm.body
    intro p1 p3 h4 hn1 hn3 ev
    have f4 : Fr [] h h4 := (Fr.refl [] h).ev ev (two_ge hn3.1 hn1.1)
    obtain ⟨a1, a2, a3, _⟩ := hv.fields
    obtain ⟨b1, b2, b3, _⟩ := hw.fields
    have hc : (((v.Kind == w.Kind) && (v.N == w.N)) && (cmpS .eql v.S w.S)) = true := by
      rw [a1, a2, a3, b1, b2, b3]; simp [cmpS]
    obtain ⟨vs, hvs, hvl⟩ := (RepT.bound _ _ hv).kids
    obtain ⟨us, hus, hul⟩ := (RepT.bound _ _ hw).kids
    have hpl : (preL t.l).length + 1 ≤ n := by rw [pre_eq] at ht; simpa using ht
    refine JoinW.inl ⟨fun _ hL => ?_, fun e => (by rw [hc] at e; cases e)⟩
    refine F_tenurekit_SameTerms.mono (SameTerms_ok (ih (n - 1) (by omega) (by omega)) (by omega) (ts := t.l) (by omega) (hvs.fr f4 (by simp)) (RepL.fr f4 (by simp) _ _ hvl) (hus.fr f4 (by simp)) (RepL.fr f4 (by simp) _ _ hul) X) ?_ fun _ _ h => h
    rintro r h12 ⟨rfl, f12⟩
    exact ⟨f12.sameOn hL (by simp), rfl, f4.step f12⟩
theorem same_ok {d : Dd} (hb : (pre d.t).length ≤ 1048576) (hl : (preL d.l).length ≤ 1048576) {a b : V_api_Deed} {h : Hp} {P Q : Nat → Prop} (ha : RepD h P a d) (hb' : RepD h Q b d) (X : Chain → Hp → Prop) :
    F_tenurelaw31_same.call a b h (fun r h' => r = true ∧ Fr [] h h') X := by
  refine F_tenurelaw31_same.sound ?_
  unfold F_tenurelaw31_same.body
  intro p1 p3 h4 hn1 hn3 ev
  have f4 : Fr [] h h4 := (Fr.refl [] h).ev ev (two_ge hn3.1 hn1.1)
  obtain ⟨a1, a2, a3, a4, vs, a5, a6⟩ := ha
  obtain ⟨b1, b2, b3, b4, us, b5, b6⟩ := hb'
  have hc : (((a.Kind == b.Kind) && (a.N == b.N)) && (cmpS .eql a.Name b.Name)) = true := by
    rw [a1, a2, a3, b1, b2, b3]; simp [cmpS]
  refine JoinW.inl ⟨fun _ hL => ?_, fun e => (by rw [hc] at e; cases e)⟩
  refine F_tenurekit_SameTerm.mono (SameTerm_all 1048576 (Nat.le_refl _) d.t hb _ _ h4 _ _ X (RepT.fr f4 (by simp) _ _ a4) (RepT.fr f4 (by simp) _ _ b4)) ?_ fun _ _ h => h
  rintro r h12 ⟨rfl, f12⟩
  have f12' := f4.step f12
  refine ⟨f12.sameOn hL (by simp), JoinW.inl ⟨fun _ hL12 => ?_, fun e => (by cases e)⟩⟩
  refine F_tenurekit_SameTerms.mono (SameTerms_ok (SameTerm_all 1048576 (Nat.le_refl _)) (Nat.le_refl _) hl (a5.fr f12' (by simp)) (RepL.fr f12' (by simp) _ _ a6) (b5.fr f12' (by simp)) (RepL.fr f12' (by simp) _ _ b6) X) ?_ fun _ _ h => h
  rintro r h18 ⟨rfl, f18⟩
  exact ⟨f18.sameOn hL12 (by simp), rfl, f12'.step f18⟩

/-! ### The examples -/
theorem RepD.bound {h : Hp} {P : Nat → Prop} {x : V_api_Deed} {d : Dd} (r : RepD h P x d) : RepD h (fun b => P b ∧ b < h.size) x d := by
  obtain ⟨h1, h2, h3, h4, vs, h5, h6⟩ := r
  exact ⟨h1, h2, h3, RepT.bound _ _ h4, vs, h5.bound, RepL.bound _ _ h6⟩
theorem parses_ok {h : Hp} {line : Str} {x : V_api_Deed} {d : Dd} {P : Nat → Prop} (g : Gl h) (hs : Small line) (hp : pParse line = (d, 0)) (hx : RepD h P x d) (hb : (pre d.t).length ≤ 1048576) (hl : (preL d.l).length ≤ 1048576) (X : Chain → Hp → Prop) :
    F_tenurelaw31_parses.call line x h (fun r h' => r = true ∧ Fr [] h h') X := by
  refine F_tenurelaw31_parses.sound ?_
  unfold F_tenurelaw31_parses.body
  intro p1 h2 hn1 ev1 hL2
  have f2 : Fr [] h h2 := (Fr.refl [] h).ev ev1 (one_ge hn1.1)
  have hn1' := hn1.1
  have hn1'' := hn1.2
  refine F_script_Parse.mono (F_script_Parse.ok (g.fr f2 (by simp)) hs _) ?_ fun _ _ h => h
  rw [hp]
  rintro y e h5 ⟨rfl, hy, f5⟩
  have hs5 := f5.1
  refine ⟨f5.sameOn hL2 (by simp), fun p6 h8 hn6 ev6 => ?_⟩
  have hn6' := hn6.1
  have hy := hy.bound
  have f08 : Fr [] h h8 := (f2.step f5).trans ev6.fr (fun z hz => .inr (by simp at hz; omega))
  have hx8 := hx.bound.fr f08 (by simp)
  have hy8 := hy.fr ev6.fr (fun b hb hm => by simp at hm; omega)
  refine JoinW.inl ⟨fun _ hL8 => ?_, fun e => (by cases e)⟩
  refine F_tenurelaw31_same.mono (same_ok hb hl hy8 hx8 _) ?_ fun _ _ h => h
  rintro r h14 ⟨rfl, f14⟩
  exact ⟨f14.sameOn hL8 (by simp), rfl, f08.step f14⟩
theorem refused_ok {h : Hp} {line : Str} {want : Int} (g : Gl h) (hs : Small line) (hp : (pParse line).2 = want) (X : Chain → Hp → Prop) :
    F_tenurelaw31_refused.call line want h (fun r h' => r = true ∧ Fr [] h h') X := by
  refine F_tenurelaw31_refused.sound ?_
  unfold F_tenurelaw31_refused.body
  refine F_script_Parse.mono (F_script_Parse.ok g hs _) ?_ fun _ _ h => h
  rintro y e h5 ⟨rfl, hy, f5⟩
  intro p4 h6 hn4 ev4
  have := f5.1
  exact ⟨by simp [hp], f5.trans ev4.fr (fun z hz => .inr (by simp at hz; have := hn4.1; omega))⟩
theorem I_ok (n : Int) (h : Hp) (X : Chain → Hp → Prop) : F_tenurekit_I.call n h (fun v h' => v = ⟨1, n, [], ⟨none, 0, 0⟩⟩ ∧ Fr [] h h') X := by
  refine F_tenurekit_I.sound ?_
  exact fun p1 h3 hn ev => ⟨rfl, (Fr.refl [] h).ev ev (one_ge hn.1)⟩
theorem A_ok (s : Str) (h : Hp) (X : Chain → Hp → Prop) : F_tenurekit_A.call s h (fun v h' => v = ⟨2, 0, s, ⟨none, 0, 0⟩⟩ ∧ Fr [] h h') X := by
  refine F_tenurekit_A.sound ?_
  exact fun p1 h3 hn ev => ⟨rfl, (Fr.refl [] h).ev ev (one_ge hn.1)⟩
theorem ex1 : pParse [115, 112, 97, 119, 110, 32, 102, 32, 91, 49, 44, 97, 93] = (⟨1, 0, [102], zeroT, [.mk 1 1 [] [], .mk 2 0 [97] []]⟩, 0) := by kernel_rfl
theorem ex2 : pParse [115, 101, 110, 100, 32, 50, 32, 39, 120, 32, 121, 39] = (⟨3, 2, [], .mk 2 0 [120, 32, 121] [], []⟩, 0) := by kernel_rfl
theorem ex3 : (pParse [115, 112, 97, 119, 110, 32, 102]).2 = 4 := by kernel_rfl
theorem ex4 : (pParse [106, 117, 109, 112, 32, 49]).2 = 6 := by kernel_rfl
theorem awake_ok {h : Hp} (g : Gl h) (X : Chain → Hp → Prop) : F_tenurelaw31_awake.call h (fun r h' => r = true ∧ Fr [] h h') X := by
  refine F_tenurelaw31_awake.sound ?_
  unfold F_tenurelaw31_awake.body
  refine F_tenurekit_I.mono (I_ok _ _ _) ?_ fun _ _ h => h
  rintro v h2 ⟨rfl, f2⟩
  refine F_tenurekit_A.mono (A_ok _ _ _) ?_ fun _ _ h => h
  rintro w h4 ⟨rfl, f4⟩
  intro p5 h6 hp5 e6
  have f6 := Fr.push e6
  have f06 := (f2.step f4).step f6
  have b5 : Blk h6 p5 (cellsOf tc [⟨1, 1, [], ⟨none, 0, 0⟩⟩, ⟨2, 0, [97], ⟨none, 0, 0⟩⟩]) 24 := Blk.new hp5 e6
  refine F_tenurelaw31_parses.mono (parses_ok (P := fun _ => True) (g.fr f06 (by simp)) (by unfold Small; simp) ex1 ⟨rfl, rfl, rfl, RepT.zero _ _, [⟨1, 1, [], ⟨none, 0, 0⟩⟩, ⟨2, 0, [97], ⟨none, 0, 0⟩⟩], ⟨rfl, Nat.le_refl _, fun _ => ⟨p5, 0, rfl, trivial, b5.cells0 (List.take_of_length_le (Nat.le_refl _))⟩⟩, ⟨rfl, rfl, rfl, [], RepS.nil, trivial⟩, ⟨rfl, rfl, rfl, [], RepS.nil, trivial⟩, trivial⟩ (by simp [zeroT, pre, preL]) (by simp [pre, preL]) _) ?_ fun _ _ h => h
  rintro r h8 ⟨rfl, f8⟩
  have f08 := f06.step f8
  refine JoinW.inl ⟨fun _ => ?_, fun e => (by cases e)⟩
  refine F_tenurekit_A.mono (A_ok _ _ _) ?_ fun _ _ h => h
  rintro v h14 ⟨rfl, f14⟩
  have f014 := f08.step f14
  refine F_tenurelaw31_parses.mono (parses_ok (P := fun _ => True) (g.fr f014 (by simp)) (by unfold Small; simp) ex2 ⟨rfl, rfl, rfl, ⟨rfl, rfl, rfl, [], RepS.nil, trivial⟩, [], RepS.nil, trivial⟩ (by simp [pre, preL]) (by simp [preL]) _) ?_ fun _ _ h => h
  rintro r h16 ⟨rfl, f16⟩
  have f016 := f014.step f16
  refine JoinW.inl ⟨fun _ => ?_, fun e => (by cases e)⟩
  refine F_tenurelaw31_refused.mono (refused_ok (g.fr f016 (by simp)) (by unfold Small; simp) ex3 _) ?_ fun _ _ h => h
  rintro r h22 ⟨rfl, f22⟩
  have f022 := f016.step f22
  refine JoinW.inl ⟨fun _ => ?_, fun e => (by cases e)⟩
  refine F_tenurelaw31_refused.mono (refused_ok (g.fr f022 (by simp)) (by unfold Small; simp) ex4 _) ?_ fun _ _ h => h
  rintro r h28 ⟨rfl, f28⟩
  exact ⟨rfl, f022.step f28⟩

/-! ### The deed of a line is small -/
theorem itemsT_pre : ∀ (n : Nat) (t : Tm), (pre t).length ≤ n → ∀ l, itemsT t = some l → (preL l).length ≤ (pre t).length := by
  intro n
  induction n with
  | zero => intro t ht; have := pre_pos t; omega
  | succ n ih =>
    intro t ht l hl
    by_cases hc : t.kind = 9 ∧ t.l.length = 2
    · obtain ⟨k, m, s, l2⟩ := t
      obtain ⟨h9, h2⟩ := hc
      have h9 : k = 9 := h9
      subst h9
      obtain ⟨a, b, rfl⟩ : ∃ a b, l2 = [a, b] := by
        match l2, h2 with
        | [a, b], _ => exact ⟨a, b, rfl⟩
      rw [itemsT_cons] at hl
      obtain ⟨l3, h3, rfl⟩ := map_some.1 hl
      simp only [pre, preL, List.length_cons, List.length_append, List.length_nil] at ht ⊢
      have := ih b (by omega) l3 h3
      omega
    · rw [itemsT_end _ hc] at hl
      split at hl
      · injection hl with hl; subst hl; simp [preL]
      · cases hl
theorem readT_num {s : Str} {t : Tm} (h : readT s = some t) : (pre t).length ≤ s.length := pRead_num (readT_some h).2.1
theorem namedD_num {rest nm : Str} {l : List Tm} (h : pNamedD rest = some (nm, l)) : (preL l).length ≤ rest.length := by
  unfold pNamedD at h
  obtain ⟨i, _, hi⟩ := List.exists_of_findSome?_eq_some h
  unfold nmAt at hi
  split at hi
  · unfold namedAt at hi
    split at hi
    · rename_i a t ha ht
      split at hi
      · obtain ⟨l2, h2, h3⟩ := map_some.1 hi
        injection h3 with _ h3; subst h3
        have h4 := itemsT_pre _ t (Nat.le_refl _) _ h2
        have h5 := readT_num ht
        rw [List.length_drop] at h5
        omega
      · cases hi
    · cases hi
  · cases hi
theorem zeroT_num : (pre zeroT).length = 1 := by simp [zeroT, pre, preL]
theorem pDeed_num {w : Int × Bool × Bool} {rest : Str} {d : Dd} (h : pDeed w rest = some d) : (pre d.t).length ≤ rest.length + 1 ∧ (preL d.l).length ≤ rest.length := by
  unfold pDeed at h
  split at h
  · obtain ⟨⟨a, l⟩, hx, rfl⟩ := map_some.1 h
    exact ⟨by rw [zeroT_num]; omega, namedD_num hx⟩
  · split at h
    · split at h
      · rename_i n t hn ht
        split at h
        · injection h with h; subst h
          have := readT_num ht
          have h2 : (Lib.cut rest [32]).2.1.length ≤ rest.length := by
            unfold Lib.cut; split
            · simp only [List.length_drop]; omega
            · simp
          exact ⟨by show (pre t).length ≤ _; omega, by simp [preL]⟩
        · cases h
      · cases h
    · obtain ⟨n, hn, rfl⟩ := map_some.1 h
      exact ⟨by rw [zeroT_num]; omega, by simp [preL]⟩
theorem pParse_num (line : Str) : (pre (pParse line).1.t).length ≤ line.length + 1 ∧ (preL (pParse line).1.l).length ≤ line.length := by
  have hz : (pre zeroD.t).length ≤ line.length + 1 ∧ (preL zeroD.l).length ≤ line.length := ⟨by show (pre zeroT).length ≤ _; rw [zeroT_num]; omega, by simp [zeroD, preL]⟩
  have h2 : (Lib.cut line [32]).2.1.length ≤ line.length := by
    unfold Lib.cut; split
    · simp only [List.length_drop]; omega
    · simp
  unfold pParse
  split
  · exact hz
  · split
    · exact hz
    · split
      · exact hz
      · rename_i d hd
        split
        · have := pDeed_num hd
          exact ⟨by show (pre d.t).length ≤ _; omega, by show (preL d.l).length ≤ _; omega⟩
        · exact hz
theorem ScriptParses_ok {h : Hp} {line : Str} (g : Gl h) (X : Chain → Hp → Prop) : F_tenurelaw31_ScriptParses.call line h (fun r h' => r = true ∧ Fr [] h h') X := by
  refine F_tenurelaw31_ScriptParses.sound ?_
  unfold F_tenurelaw31_ScriptParses.body
  refine ⟨fun _ => ⟨rfl, Fr.refl _ _⟩, fun hl => ?_⟩
  have hs : Small line := by unfold Small; omega
  have hs' : line.length ≤ 1048576 := hs
  refine F_script_Parse.mono (F_script_Parse.ok g hs _) ?_ fun _ _ h => h
  rintro x e h3 ⟨rfl, hx, f3⟩
  intro p4 h6 hn4 ev4 hL6
  have hn4' := hn4.1
  have hn4'' := hn4.2
  have hs3 := f3.1
  have f06 : Fr [] h h6 := f3.trans ev4.fr (fun z hz => .inr (by simp at hz; omega))
  have hx := hx.bound
  have hx6 := hx.fr ev4.fr (fun b hb hm => by simp at hm; omega)
  have hs6 := ev4.size
  refine F_tenureref31_Parse.mono (Parse31_ok hs _) ?_ fun _ _ h => h
  rintro y e h9 ⟨rfl, hy, f9⟩
  have hs9 := f9.1
  refine ⟨f9.sameOn hL6 (by simp), fun p10 h12 hn10 ev12 hL12 => ?_⟩
  have hn10' := hn10.1
  have f012 : Fr [] h h12 := (f06.step f9).trans ev12.fr (fun z hz => .inr (by simp at hz; omega))
  have hy := hy.bound
  have hx12 := (hx6.fr f9 (by simp)).fr ev12.fr (fun b hb hm => by simp at hm; omega)
  have hy12 := hy.fr ev12.fr (fun b hb hm => by simp at hm; omega)
  have hnum := pParse_num line
  refine F_tenurelaw31_same.mono (same_ok (by omega) (by omega) hx12 hy12 _) ?_ fun _ _ h => h
  rintro r h14 ⟨rfl, f14⟩
  have f014 := f012.step f14
  refine ⟨f14.sameOn hL12 (by simp), JoinW.inl ⟨fun _ hL14 => ?_, fun e => (by simp at e)⟩⟩
  refine F_tenurelaw31_awake.mono (awake_ok (g.fr f014 (by simp)) _) ?_ fun _ _ h => h
  rintro r h21 ⟨rfl, f21⟩
  exact ⟨f21.sameOn hL14 (by simp), rfl, f014.step f21⟩
end Go.Proofs.YtefbonjcpdjhcaaGreatDoor.X

/- Stage 2: lines: strings.SplitSeq. -/
set_option linter.unusedVariables false
set_option maxRecDepth 100000
namespace Go.Proofs.YtefbonjcpdjhcaaGreatDoor.X
open Go Go.RowKit

/-! ### What stands between line breaks -/
def splitL : Str → List Str
  | [] => [[]]
  | c :: r => if c = 10 then [] :: splitL r else match splitL r with
    | [] => [[c]]
    | x :: xs => (c :: x) :: xs
theorem splitL_ne : ∀ s : Str, splitL s ≠ []
  | [] => by simp [splitL]
  | c :: r => by
    unfold splitL
    split
    · simp
    · split <;> simp
theorem splitL_miss : ∀ (s : Str), (∀ j, j < s.length → s[j]? ≠ some 10) → splitL s = [s]
  | [], _ => rfl
  | c :: r, h => by
    have hc : c ≠ 10 := fun e => h 0 (by simp) (by simp [e])
    have ih := splitL_miss r fun j hj => by have := h (j + 1) (by simpa using hj); simpa using this
    unfold splitL
    rw [if_neg hc, ih]
theorem splitL_hit : ∀ (s : Str) (i : Nat), s[i]? = some 10 → (∀ j, j < i → s[j]? ≠ some 10) → splitL s = s.take i :: splitL (s.drop (i + 1))
  | [], i, h, _ => by simp at h
  | c :: r, 0, h, _ => by
    have : c = 10 := by simpa using h
    subst this
    show splitL (10 :: r) = [] :: splitL r
    rw [splitL, if_pos rfl]
  | c :: r, i + 1, h, hno => by
    have hc : c ≠ 10 := fun e => hno 0 (by omega) (by simp [e])
    have ih := splitL_hit r i (by simpa using h) fun j hj => by have := hno (j + 1) (by omega); simpa using this
    conv => lhs; unfold splitL
    rw [if_neg hc, ih]
    rfl
theorem splitL_len : ∀ s : Str, (splitL s).length ≤ s.length + 1
  | [] => by simp [splitL]
  | c :: r => by
    have := splitL_len r
    unfold splitL
    split
    · simp; omega
    · split
      · simp
      · rename_i x xs e
        rw [e] at this
        simp at this ⊢; omega
theorem splitL_small : ∀ (s : Str) (x : Str), x ∈ splitL s → x.length ≤ s.length
  | [], x, h => by simp [splitL] at h; subst h; simp
  | c :: r, x, h => by
    have ih := splitL_small r
    unfold splitL at h
    split at h
    · rcases List.mem_cons.1 h with rfl | h
      · simp
      · have := ih x h; simp; omega
    · split at h
      · simp at h; subst h; simp
      · rename_i y ys e
        rw [e] at ih
        rcases List.mem_cons.1 h with rfl | h
        · have := ih y (by simp); simp; omega
        · have := ih x (by simp [h]); simp; omega
theorem get_dropG {α : Type} {l m : List α} {k : Nat} {t : α} (h : l.drop k = t :: m) : l[k]? = some t ∧ l.drop (k + 1) = m ∧ k < l.length := by
  have h1 : l[k]? = some t := by have := congrArg (fun l => l[0]?) h; simpa using this
  refine ⟨h1, ?_, (List.getElem?_eq_some_iff.1 h1).1⟩
  rw [← List.drop_drop, h]; rfl
theorem index_ok {s p : Str} {h : Hp} (g : Gl h) (hs : s.length < 4294967281) (X : Chain → Hp → Prop) : F_strings_Index.call s p h (fun r h' => r = Lib.index s p ∧ h = h') X :=
  CallH.of_calls fun w hw => by
    obtain ⟨m, hm⟩ := g.maxLen
    subst hw
    refine (Tryz.strings_Index (ba s) (ba p) m w hs hm).mono fun e w' ⟨he, hw'⟩ => ?_
    subst he hw'
    exact ⟨_, rfl, Wd.refl _, _, rfl, rfl, rfl⟩
theorem index_10 (s : Str) : (Lib.index s [10] = -1 ∧ splitL s = [s]) ∨ (∃ i : Nat, Lib.index s [10] = i ∧ i < s.length ∧ splitL s = s.take i :: splitL (s.drop (i + 1))) := by
  rcases Lib.index_spec s [10] with ⟨h1, h2⟩ | ⟨i, h1, h2, h3, h4⟩
  · refine .inl ⟨h1, splitL_miss s fun j hj e => ?_⟩
    have := h2 j (by omega)
    rw [(occAt_one s 10 j).2 e] at this; cases this
  · have h5 := (occAt_one s 10 i).1 h3
    refine .inr ⟨i, h1, (List.getElem?_eq_some_iff.1 h5).1, splitL_hit s i h5 fun j hj e => ?_⟩
    have := h4 j hj
    rw [(occAt_one s 10 j).2 e] at this; cases this
theorem SplitSeq_ok {s : Str} {h : Hp} (X : Chain → Hp → Prop) : F_strings_SplitSeq.call s [10] h (fun r h' => ∃ p1 p3 p5, r = Value.func (.func 87) #[] #[.pointer (some ⟨p3, 0, none⟩), .pointer (some ⟨p1, 0, none⟩), .pointer (some ⟨p5, 0, none⟩)] ∧ p1 = h.size ∧ p3 = h.size + 1 ∧ p5 = h.size + 2 ∧
    Blk h' p1 [.string (ba s)] 9 ∧ Blk h' p3 [.string (ba [10])] 9 ∧ Blk h' p5 [.int .i64 0] 3 ∧ Fr [] h h') X := by
  refine F_strings_SplitSeq.sound ?_
  unfold F_strings_SplitSeq.body
  refine F_strings_splitSeq.mono (K := fun r h' => ∃ p1 p3 p5, r = Value.func (.func 87) #[] #[.pointer (some ⟨p3, 0, none⟩), .pointer (some ⟨p1, 0, none⟩), .pointer (some ⟨p5, 0, none⟩)] ∧ p1 = h.size ∧ p3 = h.size + 1 ∧ p5 = h.size + 2 ∧
    Blk h' p1 [.string (ba s)] 9 ∧ Blk h' p3 [.string (ba [10])] 9 ∧ Blk h' p5 [.int .i64 0] 3 ∧ Fr [] h h') (X := X) ?_ (fun _ _ h => h) fun _ _ h => h
  refine F_strings_splitSeq.sound ?_
  unfold F_strings_splitSeq.body
  intro p1 h2 hp1 e2 p3 h4 hp3 e4 p5 h6 hp5 e6
  have f2 := Fr.push e2
  have f4 := Fr.push e4
  have f6 := Fr.push e6
  have s2 := size_push e2
  have s4 := size_push e4
  have b1 : Blk h6 p1 [.string (ba s)] 9 := ((Blk.new (cs := [.string (ba s)]) hp1 e2).fr f4 (by simp)).fr f6 (by simp)
  have b3 : Blk h6 p3 [.string (ba [10])] 9 := (Blk.new (cs := [.string (ba [10])]) hp3 e4).fr f6 (by simp)
  have b5 : Blk h6 p5 [.int .i64 0] 3 := Blk.new (cs := [.int .i64 0]) hp5 e6
  exact ⟨p1, p3, p5, rfl, hp1, by omega, by omega, b1, b3, b5, (f2.step f4).step f6⟩
/-- The blocks below L stay, but for those of M. -/
def FrL (L : Nat) (M : List Nat) (g g' : Hp) : Prop := g.size ≤ g'.size ∧ ∀ b, b < L → b ∉ M → g'[b]? = g[b]?
theorem FrL.refl (L : Nat) (M : List Nat) (g : Hp) : FrL L M g g := ⟨Nat.le_refl _, fun _ _ _ => rfl⟩
theorem FrL.trans {L : Nat} {M : List Nat} {a b c : Hp} (h : FrL L M a b) (k : FrL L M b c) : FrL L M a c := ⟨Nat.le_trans h.1 k.1, fun x hx hm => by rw [k.2 x hx hm, h.2 x hx hm]⟩
theorem FrL.of {L : Nat} {M M' : List Nat} {g g' : Hp} (f : Fr M' g g') (hm : ∀ b ∈ M', b ∈ M ∨ L ≤ b) (hl : L ≤ g.size) : FrL L M g g' := ⟨f.1, fun b hb hb' => f.2 b (by omega) fun h => by
  rcases hm b h with h | h
  · exact hb' h
  · omega⟩
theorem FrL.at_ {L : Nat} {M : List Nat} {g g' : Hp} {b : Nat} {ob : Obj} (f : FrL L M g g') (h : g[b]? = some ob) (hl : b < L) (hm : b ∉ M) : g'[b]? = some ob := by rw [f.2 b hl hm, h]
theorem FrL.blk {L : Nat} {M : List Nat} {g g' : Hp} {b : Nat} {cs : List Value} {ty : TypeId} (f : FrL L M g g') (h : Blk g b cs ty) (hl : b < L) (hm : b ∉ M) : Blk g' b cs ty := f.at_ h hl hm
theorem FrL.frTo {L : Nat} {M : List Nat} {h g g' : Hp} (a : Fr M h g) (f : FrL L M g g') (hl : L = h.size) : Fr M h g' := ⟨Nat.le_trans a.1 f.1, fun b hb hm => by rw [f.2 b (by omega) hm, a.2 b hb hm]⟩
theorem FrL.gl {L : Nat} {M : List Nat} {g g' : Hp} (f : FrL L M g g') (hg : Gl g) (hm : ∀ b ∈ M, 8 ≤ b) (hl : 8 ≤ L) : Gl g' := by
  have f' : Fr (M ++ (List.range g.size).filter fun b => decide (L ≤ b)) g g' := ⟨f.1, fun b hb hb' => f.2 b (by
    rcases Nat.lt_or_ge b L with h | h
    · exact h
    · exact absurd (by simp; exact .inr ⟨hb, h⟩) hb') fun h => hb' (List.mem_append_left _ h)⟩
  refine hg.fr f' fun b hb => ?_
  rcases List.mem_append.1 hb with h | h
  · exact hm b h
  · simp at h; omega
/-- Each piece is handed over. -/
theorem splitSeq_1_ok {h : Hp} {f0 f1 f2 : Nat} {s : Str} {y : Value} (M : List Nat) (I : Nat → Hp → Prop) (St : Hp → Prop) (X : Chain → Hp → Prop) (g0 : Gl h) (h8 : 8 ≤ f1) (hM8 : ∀ b ∈ M, 8 ≤ b) (hs : Small s)
    (hf0 : Blk h f0 [.string (ba [10])] 9) (hf1 : Blk h f1 [.string (ba s)] 9) (hf2 : Blk h f2 [.int .i64 0] 3) (hne : f0 ≠ f1 ∧ f2 ≠ f1) (hM : ∀ b ∈ M, b ≠ f0 ∧ b ≠ f1 ∧ b ≠ f2)
    (hI : ∀ k g g', I k g → Fr [f1] g g' → I k g') (h0 : I 0 h)
    (hy : ∀ k u g, (splitL s)[k]? = some u → h.size ≤ g.size → Gl g → I k g → CallV Tryz.prog y [.string (ba u)] g (fun w g' => ∃ b, w = .bool b ∧ FrL h.size M g g' ∧ (if b = true then I (k + 1) g' else St g')) noX) :
    F_strings_splitSeq_1.call y ⟨f0, 0, none⟩ ⟨f1, 0, none⟩ ⟨f2, 0, none⟩ h (fun h' => (I (splitL s).length h' ∨ St h') ∧ Fr (f1 :: M) h h') X := by
  refine F_strings_splitSeq_1.sound ?_
  unfold F_strings_splitSeq_1.body
  have hsm : s.length ≤ 1048576 := hs
  refine ⟨[10], hf0.cells0 rfl, fun e => (by simp at e), fun _ => ?_⟩
  refine ⟨fun _ g => ∃ k r, Blk g f1 [.string (ba r)] 9 ∧ (splitL s).drop k = splitL r ∧ r.length ≤ s.length ∧ I k g ∧ Fr (f1 :: M) h g ∧ Gl g, fun _ g => match hcell g ⟨f1, 0, none⟩ with | some (.string b) => b.size | _ => 0,
    ⟨0, s, hf1, rfl, Nat.le_refl _, h0, Fr.refl _ _, g0⟩, ?_⟩
  rintro _ g ⟨k, r, b1, hdr, hrl, hIk, fg, gg⟩
  have hMf : ∀ b ∈ f1 :: M, b ≠ f0 ∧ b ≠ f2 := fun b hb => by
    rcases List.mem_cons.1 hb with rfl | hb
    · exact ⟨fun e => hne.1 e.symm, fun e => hne.2 e.symm⟩
    · have := hM b hb; exact ⟨this.1, this.2.2⟩
  have b0 := hf0.fr fg (fun hm => (hMf _ hm).1 rfl)
  have b2 := hf2.fr fg (fun hm => (hMf _ hm).2 rfl)
  have hf1M : f1 ∉ M := fun hm => (hM _ hm).2.1 rfl
  have hlt0 := hf0.lt
  have hlt1 := hf1.lt
  have hlt2 := hf2.lt
  have to : ∀ {g' : Hp}, FrL h.size M g g' → FrL h.size (f1 :: M) g g' := fun f => ⟨f.1, fun b hb hm => f.2 b hb fun h => hm (List.mem_cons_of_mem _ h)⟩
  refine ⟨r, b1.cells0 rfl, [10], b0.cells0 rfl, ?_⟩
  refine F_strings_Index.mono (index_ok gg (by omega) _) ?_ fun _ _ h => h
  rintro ix _ ⟨rfl, rfl⟩
  rcases index_10 r with ⟨h1, h2⟩ | ⟨i, h1, hil, h2⟩
  · rw [h1]
    refine ⟨fun _ => ⟨r, b1.cells0 rfl, ?_⟩, fun e => absurd (by decide) e⟩
    have hk : (splitL s)[k]? = some r ∧ (splitL s).drop (k + 1) = [] ∧ k < (splitL s).length := get_dropG (l := splitL s) (k := k) (by rw [hdr, h2])
    refine CallV.mono (hy k r g hk.1 fg.1 gg hIk) ?_ fun _ _ h => h.elim
    rintro w g' ⟨b, rfl, f', hb⟩
    have hlen : (splitL s).length = k + 1 := by
      have := congrArg List.length hk.2.1
      rw [List.length_drop] at this
      simp at this; omega
    refine ⟨b, rfl, ?_, FrL.frTo fg (to f') rfl⟩
    cases b with
    | true => left; rw [hlen]; simpa using hb
    | false => right; simpa using hb
  · rw [h1]
    refine ⟨fun e => by omega, fun _ => ⟨r, b1.cells0 rfl, 0, b2.cells0 rfl, ?_⟩⟩
    have e1 : IntKind.i64.wrap ((i : Int) + 0) = (i : Int) := by rw [wrap64 (by omega) (by omega)]; omega
    simp only [e1]
    rw [sub_take]
    refine ⟨⟨by omega, by omega, by omega⟩, ?_⟩
    have hk : (splitL s)[k]? = some (r.take i) ∧ (splitL s).drop (k + 1) = splitL (r.drop (i + 1)) ∧ k < (splitL s).length := get_dropG (l := splitL s) (k := k) (by rw [hdr, h2])
    refine CallV.mono (hy k (r.take i) g hk.1 fg.1 gg hIk) ?_ fun _ _ h => h.elim
    rintro w g' ⟨b, rfl, f', hb⟩
    have fg' : Fr (f1 :: M) h g' := FrL.frTo fg (to f') rfl
    have gg' := f'.gl gg hM8 (by omega)
    refine ⟨b, rfl, fun hst => ?_, fun hgo => ?_⟩
    · have hst : b = false := by simpa using hst
      subst hst
      exact ⟨.inr (by simpa using hb), fg'⟩
    · have hgo : b = true := by simpa using hgo
      subst hgo
      simp only [if_true] at hb
      have b1' := f'.blk b1 hlt1 hf1M
      have b0' := f'.blk b0 hlt0 (fun hm => (hM _ hm).1 rfl)
      refine ⟨r, b1'.cells0 rfl, [10], b0'.cells0 rfl, ?_⟩
      have e2 : IntKind.i64.wrap ((i : Int) + (([10] : Str).length : Int)) = ((i + 1 : Nat) : Int) := by rw [wrap64 (by simp; omega) (by simp; omega)]; simp
      simp only [e2]
      rw [sub_drop]
      refine ⟨⟨by omega, by omega, by omega⟩, b1'.storable0 1 (Nat.le_refl _), fun h39 e39 => ?_⟩
      have f39 := Fr.sets e39
      have b139 := b1'.set0 (vs := [.string (ba (r.drop (i + 1)))]) (Nat.le_refl _) e39
      refine ⟨⟨k + 1, r.drop (i + 1), b139, hk.2.1, by rw [List.length_drop]; omega, hI _ _ _ hb f39, fg'.trans f39 (fun y hy => .inl (by simp at hy; simp [hy])), gg'.fr f39 (by simpa using h8)⟩, ?_⟩
      have m1 : hcell h39 ⟨f1, 0, none⟩ = some (.string (ba (r.drop (i + 1)))) := by
        have := b139.cells0 (vs := [.string (ba (r.drop (i + 1)))]) rfl 0 _ rfl
        exact this
      have m2 : hcell g ⟨f1, 0, none⟩ = some (.string (ba r)) := by
        have := b1.cells0 (vs := [.string (ba r)]) rfl 0 _ rfl
        exact this
      simp only [m1, m2]
      show (r.drop (i + 1)).length < r.length
      rw [List.length_drop]; omega
end Go.Proofs.YtefbonjcpdjhcaaGreatDoor.X
