/- The card of ScriptReads: for every text that the form allows, the law returns true and leaves its argument as it was; the listed package-level variables of Go's library hold what their initialisers lay. -/
import Derived.Test.YtefbonjcpdjhcaaGreatDoorAbP1
import Derived.Test.YtefbonjcpdjhcaaGreatDoorCards
import Derived.Test.YtefbonjcpdjhcaaGreatDoorTie
import Derived.ProofKit
import Derived.OpenShut
import Derived.Deep.DeepHandedRow
import Derived.Deep.DeepWitnessRowRef
import Derived.Lib.LaidTab
import Derived.Stop.LaidErr
import Derived.Shelf.Vars
/- Stage 2: script.Read. -/
set_option linter.unusedVariables false
set_option maxRecDepth 100000
namespace Go.Proofs.YtefbonjcpdjhcaaGreatDoor.X
open Go Go.RowKit

/-! ### Rows of deeds -/
abbrev dc : V_api_Deed → List Value := V_api_Deed.cells
theorem dc_len (v : V_api_Deed) : (dc v).length = 8 := rfl
theorem dc_one (v : V_api_Deed) (u : Value) (hu : u ∈ dc v) : u.oneCell' = true := by
  have : u = .int .i64 v.Kind ∨ u = .int .i64 v.N ∨ u = .string (ba v.Name) ∨ u = .int .i64 v.T.Kind ∨ u = .int .i64 v.T.N ∨ u = .string (ba v.T.S) ∨ u = sl v.T.L ∨ u = sl v.L := by
    simpa [V_api_Deed.cells] using hu
  rcases this with rfl | rfl | rfl | rfl | rfl | rfl | rfl | rfl <;> rfl
def RepDL (h : Hp) (P : Nat → Prop) : List V_api_Deed → List Dd → Prop
  | [], [] => True
  | v :: vs, d :: ds => RepD h P v d ∧ RepDL h P vs ds
  | _, _ => False
theorem RepDL.fr {h h' : Hp} {P : Nat → Prop} {M : List Nat} (f : Fr M h h') (hm : ∀ b, P b → b ∉ M) : ∀ {vs : List V_api_Deed} {ds : List Dd}, RepDL h P vs ds → RepDL h' P vs ds
  | [], [], _ => trivial
  | v :: vs, d :: ds, ⟨h1, h2⟩ => ⟨h1.fr f hm, RepDL.fr f hm h2⟩
  | [], _ :: _, h => h.elim
  | _ :: _, [], h => h.elim
theorem RepDL.mono {h : Hp} {P P' : Nat → Prop} (hp : ∀ b, P b → P' b) : ∀ {vs : List V_api_Deed} {ds : List Dd}, RepDL h P vs ds → RepDL h P' vs ds
  | [], [], _ => trivial
  | v :: vs, d :: ds, ⟨h1, h2⟩ => ⟨h1.mono hp, RepDL.mono hp h2⟩
  | [], _ :: _, h => h.elim
  | _ :: _, [], h => h.elim
theorem RepDL.bound {h : Hp} {P : Nat → Prop} : ∀ {vs : List V_api_Deed} {ds : List Dd}, RepDL h P vs ds → RepDL h (fun b => P b ∧ b < h.size) vs ds
  | [], [], _ => trivial
  | v :: vs, d :: ds, ⟨h1, h2⟩ => ⟨h1.bound, RepDL.bound h2⟩
  | [], _ :: _, h => h.elim
  | _ :: _, [], h => h.elim
theorem RepDL.length {h : Hp} {P : Nat → Prop} : ∀ {vs : List V_api_Deed} {ds : List Dd}, RepDL h P vs ds → vs.length = ds.length
  | [], [], _ => rfl
  | v :: vs, d :: ds, ⟨_, h2⟩ => by simp [RepDL.length h2]
  | [], _ :: _, h => h.elim
  | _ :: _, [], h => h.elim
theorem RepDL.append {h : Hp} {P : Nat → Prop} : ∀ {vs us : List V_api_Deed} {ds es : List Dd}, RepDL h P vs ds → RepDL h P us es → RepDL h P (vs ++ us) (ds ++ es)
  | [], us, [], es, _, h2 => h2
  | v :: vs, us, d :: ds, es, ⟨h0, h1⟩, h2 => ⟨h0, RepDL.append h1 h2⟩
  | [], _, _ :: _, _, h, _ => h.elim
  | _ :: _, _, [], _, h, _ => h.elim
theorem RepDL.get {h : Hp} {P : Nat → Prop} : ∀ {vs : List V_api_Deed} {ds : List Dd} {i : Nat} {v : V_api_Deed}, RepDL h P vs ds → vs[i]? = some v → ∃ d, ds[i]? = some d ∧ RepD h P v d
  | v' :: vs, d' :: ds, 0, v, ⟨h1, _⟩, hi => by simp at hi; subst hi; exact ⟨d', rfl, h1⟩
  | v' :: vs, d' :: ds, i + 1, v, ⟨_, h2⟩, hi => by
    obtain ⟨u, hu, hr⟩ := RepDL.get h2 (i := i) (by simpa using hi)
    exact ⟨u, by simpa using hu, hr⟩
  | [], _, _, _, _, hi => by simp at hi
  | _ :: _, [], _, _, h, _ => h.elim
/-- The row grown so far. L: where the call's own blocks begin. -/
structure AccD (L : Nat) (h : Hp) (x : Sl) (ds : List Dd) (O : List Nat) : Prop where
  one : O.length ≤ 1
  low : ∀ y ∈ O, L ≤ y
  le : L ≤ h.size
  rep : ∃ vs, SlG dc 8 26 h x vs O ∧ RepDL h (fun b => L ≤ b ∧ b ∉ O) vs ds
theorem AccD.fr {L : Nat} {h h' : Hp} {x : Sl} {ds : List Dd} {O M : List Nat} (a : AccD L h x ds O) (f : Fr M h h') (hm : ∀ y ∈ M, y < L) : AccD L h' x ds O := by
  obtain ⟨vs, g, r⟩ := a.rep
  refine ⟨a.one, a.low, Nat.le_trans a.le f.1, vs, g.fr f (fun y hy hym => by have := a.low y hy; have := hm y hym; omega), r.fr f (fun b hb hbm => by have := hm b hbm; omega)⟩
theorem AccD.nil {L : Nat} {h : Hp} (hl : L ≤ h.size) : AccD L h ⟨none, 0, 0⟩ [] [] := ⟨by simp, by simp, hl, [], ⟨rfl, rfl⟩, trivial⟩
theorem AccD.ltO {L : Nat} {h : Hp} {x : Sl} {ds : List Dd} {O : List Nat} (a : AccD L h x ds O) : ∀ y ∈ O, y < h.size := fun y hy => by
  obtain ⟨vs, g, _⟩ := a.rep
  cases O with
  | nil => cases hy
  | cons z O =>
    obtain rfl : O = [] := by simpa using a.one
    simp at hy; subst hy; exact g.lt
theorem AccD.len {L : Nat} {h : Hp} {x : Sl} {ds : List Dd} {O : List Nat} (a : AccD L h x ds O) : x.len = ds.length := by
  obtain ⟨vs, g, r⟩ := a.rep
  rw [g.len, r.length]
theorem AccD.app {L : Nat} {h h1 : Hp} {x : Sl} {ds : List Dd} {O : List Nat} {v : V_api_Deed} {d : Dd} {p : Nat} {K : Sl → Hp → Prop} (a : AccD L h x ds O) (hv : RepD h (fun b => L ≤ b ∧ b ∉ O) v d) (hp : p = h.size) (e : h1 = h.push (.cells (dc v).toArray 26)) (hl : ds.length ≤ 1048576)
    (hh : ∀ x' h' O', AccD L h' x' (ds ++ [d]) O' → Fr O h h' → K x' h') : AppW h1 26 8 112 [.int .i64 0, .int .i64 0, .string (ba ([] : Str)), .int .i64 0, .int .i64 0, .string (ba ([] : Str)), sl (⟨none, 0, 0⟩ : Sl), sl (⟨none, 0, 0⟩ : Sl)] x (⟨some ⟨p, 0, none⟩, 1, 1⟩ : Sl) K := by
  obtain ⟨vs, g, r⟩ := a.rep
  have f1 := Fr.push e
  have hlen := r.length
  refine AppW.one dc_len dc_one a.one (g.fr f1 (by simp)) (Blk.new hp e) (by omega) (by omega) rfl ?_
  intro x' h' O' g' hO' f' hs
  have hle := a.le
  have hsz := size_push e
  refine hh x' h' O' ⟨hO', fun y hy => ?_, Nat.le_trans (Nat.le_trans a.le f1.1) f'.1, vs ++ [v], g', ?_⟩ (((Fr.refl O h).step f1).same f')
  · rcases hs y hy with h2 | h2
    · exact a.low y h2
    · omega
  · have r1 : RepDL h (fun b => (L ≤ b ∧ b ∉ O) ∧ b < h.size) (vs ++ [v]) (ds ++ [d]) := RepDL.bound (RepDL.append r ⟨hv, trivial⟩)
    have r2 := r1.fr (((Fr.refl O h).step f1).same f') (fun b hb => hb.1.2)
    exact r2.mono fun b hb => ⟨hb.1.1, fun hm => by
      rcases hs b hm with h2 | h2
      · exact hb.1.2 h2
      · omega⟩

/-! ### What lines say, one behind the other -/
def readL : List Str → Int → List Dd × Int
  | [], _ => ([], 0)
  | seg :: r, n => if seg = [] then readL r (n + 1) else if (pParse seg).2 ≠ 0 then ([], n) else ((pParse seg).1 :: (readL r (n + 1)).1, (readL r (n + 1)).2)
def pReads (text : Str) : List Dd × Int := readL (splitL text) 1
theorem F_script_Read.ok {h : Hp} {s : Str} (g : Gl h) (hs : Small s) (X : Chain → Hp → Prop) :
    F_script_Read.call s h (fun x n h' => n = (pReads s).2 ∧ (∃ vs, RepS dc h' (fun b => h.size ≤ b) x vs ∧ RepDL h' (fun b => h.size ≤ b) vs (pReads s).1) ∧ Fr [] h h') X := by
  refine F_script_Read.sound ?_
  unfold F_script_Read.body
  have h8 := gl8 g
  have hsm : s.length ≤ 1048576 := hs
  intro p1 h2 hp1 e2 p3 h4 hp3 e4 p5 h6 hp5 e6 p7 h8' hp7 e8
  have f2 := Fr.push e2
  have f4 := Fr.push e4
  have f6 := Fr.push e6
  have f8 := Fr.push e8
  have s2 := size_push e2
  have s4 := size_push e4
  have s6 := size_push e6
  have s8 := size_push e8
  have b1 : Blk h8' p1 [sl ⟨none, 0, 0⟩] 33 := (((Blk.new (cs := [sl ⟨none, 0, 0⟩]) hp1 e2).fr f4 (by simp)).fr f6 (by simp)).fr f8 (by simp)
  have b3 : Blk h8' p3 [.int .i64 0] 3 := ((Blk.new (cs := [.int .i64 0]) hp3 e4).fr f6 (by simp)).fr f8 (by simp)
  have b5 : Blk h8' p5 [sl ⟨none, 0, 0⟩] 33 := (Blk.new (cs := [sl ⟨none, 0, 0⟩]) hp5 e6).fr f8 (by simp)
  have b7 : Blk h8' p7 [.int .i64 0] 3 := Blk.new (cs := [.int .i64 0]) hp7 e8
  refine ⟨b7.storable0 1 (Nat.le_refl _), fun h9 e9 => ?_⟩
  have f9 := Fr.sets e9
  have b79 : Blk h9 p7 [.int .i64 0] 3 := b7.set0 (vs := [.int .i64 0]) (Nat.le_refl _) e9
  have b19 := b1.fr f9 (one_not (show p1 ≠ p7 by omega))
  have b39 := b3.fr f9 (one_not (show p3 ≠ p7 by omega))
  have b59 := b5.fr f9 (one_not (show p5 ≠ p7 by omega))
  have f09 : Fr [] h h9 := (((f2.step f4).step f6).step f8).trans f9 (fun y hy => .inr (by simp at hy; omega))
  have g9 := g.fr f09 (by simp)
  refine F_strings_SplitSeq.mono (SplitSeq_ok _) ?_ fun _ _ h => h
  rintro _ h11 ⟨q1, q3, q5, rfl, hq1, hq3, hq5, c1, c3, c5, f11⟩
  have hs11 := c5.lt
  intro D l rc y h13 hD hl13 e13 hy hround
  have f13 : Fr [] h11 h13 := (Fr.push rfl).step (Fr.push e13)
  have hl0 : h13[l]? = some (.loop (rc .ready none)) := push_at (by rw [hl13]; simp) e13
  have hD0 : h13[D]? = some (.deferred (some [])) := by
    have := (Fr.push e13).at_ (push_at (h := h11) (ob := .deferred (some [])) hD rfl) (by simp)
    exact this
  have hs13 : h13.size = h11.size + 2 := by rw [e13]; simp
  have f913 := f11.step f13
  have f013 := f09.step f913
  have g13 := g.fr f013 (by simp)
  have b113 := b19.fr f913 (by simp)
  have b313 := b39.fr f913 (by simp)
  have b513 := b59.fr f913 (by simp)
  have b713 := b79.fr f913 (by simp)
  have hl9 := b79.lt
  have hs09 := f09.1
  have hs911 := f11.1
  have hb1 := b19.lt
  have hb3 := b39.lt
  have hb5 := b59.lt
  -- the state behind k lines
  let R := readL (splitL s) 1
  have hcut : CallH Tryz.prog 87 #[y, .pointer (some ⟨q3, 0, none⟩), .pointer (some ⟨q1, 0, none⟩), .pointer (some ⟨q5, 0, none⟩)] h13 (fun _ h' =>
      ((h'[l]? = some (.loop (rc .ready none)) ∧ R.2 = 0 ∧ (∃ x O, Blk h' p5 [sl x] 33 ∧ AccD h13.size h' x R.1 O) ∧ Blk h' p1 [sl ⟨none, 0, 0⟩] 33 ∧ Blk h' p3 [.int .i64 0] 3) ∨
        (h'[l]? = some (.loop (rc .done (some .ret))) ∧ (∃ x O, Blk h' p1 [sl x] 33 ∧ AccD h13.size h' x R.1 O) ∧ Blk h' p3 [.int .i64 R.2] 3)) ∧ h'[D]? = some (.deferred (some [])) ∧ Fr [] h h') noX := by
    have main := splitSeq_1_ok (h := h13) (f0 := q3) (f1 := q1) (f2 := q5) (s := s) (y := y) [p1, p3, p5, p7, l]
      (fun k gg => gg[l]? = some (.loop (rc .ready none)) ∧ Blk gg p7 [.int .i64 (k : Int)] 3 ∧ Blk gg p1 [sl ⟨none, 0, 0⟩] 33 ∧ Blk gg p3 [.int .i64 0] 3 ∧ k ≤ (splitL s).length ∧
        ∃ x O ds, Blk gg p5 [sl x] 33 ∧ AccD h13.size gg x ds O ∧ ds.length ≤ k ∧ R = (ds ++ (readL ((splitL s).drop k) ((k : Int) + 1)).1, (readL ((splitL s).drop k) ((k : Int) + 1)).2))
      (fun gg => gg[l]? = some (.loop (rc .done (some .ret))) ∧ (∃ x O, Blk gg p1 [sl x] 33 ∧ AccD h13.size gg x R.1 O) ∧ Blk gg p3 [.int .i64 R.2] 3) noX g13 (by omega) (fun b hb => by simp at hb; omega) hs
      (c3.fr f13 (by simp)) (c1.fr f13 (by simp)) (c5.fr f13 (by simp)) (by omega) (fun b hb => by simp at hb; omega) ?_ ?_ ?_
    · refine CallH.mono main ?_ fun _ _ h => h
      rintro _ h' ⟨_, hor, f⟩
      refine ⟨?_, f.at_ hD0 (by simp; omega), f013.trans f (fun y hy => .inr (by simp at hy; omega))⟩
      rcases hor with ⟨a1, a2, a3, a4, _, x, O, ds, a5, a6, a7, a8⟩ | hS
      · rw [List.drop_length] at a8
        simp only [readL, List.append_nil] at a8
        refine .inl ⟨a1, by rw [a8], ⟨x, O, a5, by rw [a8]; exact a6⟩, a3, a4⟩
      · exact .inr hS
    · rintro k gg g' ⟨a1, a2, a3, a4, a0, x, O, ds, a5, a6, a7, a8⟩ f
      have hn : ∀ {b}, b ≠ q1 → b ∉ [q1] := fun h => by simpa using h
      exact ⟨f.at_ a1 (hn (by omega)), a2.fr f (hn (by omega)), a3.fr f (hn (by omega)), a4.fr f (hn (by omega)), a0, x, O, ds, a5.fr f (hn (by omega)), a6.fr f (fun y hy => by simp at hy; omega), a7, a8⟩
    · exact ⟨hl0, b713, b113, b313, by omega, ⟨none, 0, 0⟩, [], [], b513, AccD.nil (Nat.le_refl _), Nat.le_refl _, rfl⟩
    · rintro k u gg hku hgs ggl ⟨a1, a2, a3, a4, a0, x, O, ds, a5, a6, a7, a8⟩
      have hkl := splitL_len s
      have hul : u.length ≤ s.length := splitL_small s u (List.mem_of_getElem? hku)
      have hkk : k < (splitL s).length := (List.getElem?_eq_some_iff.1 hku).1
      have hdrop : (splitL s).drop k = u :: (splitL s).drop (k + 1) := by
        rw [List.drop_eq_getElem_cons hkk, (List.getElem?_eq_some_iff.1 hku).2]
      rw [hdrop] at a8
      refine CallV.mono (hround u gg (fun b g' => FrL h13.size [p1, p3, p5, p7, l] gg g' ∧ (if b = true then
          (g'[l]? = some (.loop (rc .ready none)) ∧ Blk g' p7 [.int .i64 ((k + 1 : Nat) : Int)] 3 ∧ Blk g' p1 [sl ⟨none, 0, 0⟩] 33 ∧ Blk g' p3 [.int .i64 0] 3 ∧ k + 1 ≤ (splitL s).length ∧
        ∃ x O ds, Blk g' p5 [sl x] 33 ∧ AccD h13.size g' x ds O ∧ ds.length ≤ k + 1 ∧ R = (ds ++ (readL ((splitL s).drop (k + 1)) (((k + 1 : Nat) : Int) + 1)).1, (readL ((splitL s).drop (k + 1)) (((k + 1 : Nat) : Int) + 1)).2))
          else (g'[l]? = some (.loop (rc .done (some .ret))) ∧ (∃ x O, Blk g' p1 [sl x] 33 ∧ AccD h13.size g' x R.1 O) ∧ Blk g' p3 [.int .i64 R.2] 3))) a1 ?_) ?_ fun _ _ h => h
      · refine ⟨a1, fun h17 e17 => ?_⟩
        have f17 := Fr.lset e17
        have hl17 : h17[l]? = some (.loop (rc .busy none)) := lset_at (lt_of_at a1) e17
        have a217 := a2.fr f17 (one_not (by omega))
        refine ⟨(k : Int), a217.cells0 rfl, a217.storable0 1 (Nat.le_refl _), fun h19 e19 => ?_⟩
        have f19 := Fr.sets e19
        have ek : IntKind.i64.wrap ((k : Int) + 1) = ((k + 1 : Nat) : Int) := by rw [wrap64 (by omega) (by omega)]; omega
        rw [ek] at e19
        have a219 := a217.set0 (vs := [.int .i64 ((k + 1 : Nat) : Int)]) (Nat.le_refl _) e19
        have hl19 := f19.at_ hl17 (one_not (show l ≠ p7 by omega))
        have f1719 : Fr [p7, l] gg h19 := (f17.sub (M' := [p7, l]) (fun y hy => .inl (by simp at hy; simp [hy]))).trans f19 (fun y hy => .inl (by simp at hy; simp [hy]))
        have nn : ∀ {b}, b ≠ p7 → b ≠ l → b ∉ [p7, l] := fun h1 h2 => by simp; exact ⟨h1, h2⟩
        have a319 := a3.fr f1719 (nn (by omega) (by omega))
        have a419 := a4.fr f1719 (nn (by omega) (by omega))
        have a519 := a5.fr f1719 (nn (by omega) (by omega))
        have a619 := a6.fr f1719 (fun y hy => by simp at hy; omega)
        have w0 : FrL h13.size [p1, p3, p5, p7, l] gg h19 := FrL.of f1719 (fun y hy => .inl (by simp at hy; rcases hy with h | h <;> simp [h])) hgs
        refine ⟨fun hem => ?_, fun hem => ?_⟩
        · have hu0 : u = [] := by simpa [cmpS] using hem
          refine ⟨hl19, fun h20 e20 => ?_⟩
          have f20 := Fr.lset e20
          refine ⟨w0.trans (FrL.of f20 (fun y hy => .inl (by simp at hy; simp [hy])) (by have := f1719.1; omega)), ?_⟩
          simp only [if_true]
          refine ⟨lset_at (lt_of_at hl19) e20, a219.fr f20 (one_not (by omega)), a319.fr f20 (one_not (by omega)), a419.fr f20 (one_not (by omega)), by omega, x, O, ds, a519.fr f20 (one_not (by omega)), a619.fr f20 (fun y hy => by simp at hy; omega), by omega, ?_⟩
          rw [a8, readL, if_pos hu0]
          rfl
        · have hu0 : ¬ u = [] := by simpa [cmpS] using hem
          have g19 := ggl.fr f1719 (fun b hb => by simp at hb; omega)
          have hus : Small u := by unfold Small; omega
          refine F_script_Parse.mono (F_script_Parse.ok g19 hus _) ?_ fun _ _ h => h
          rintro r20 r21 h22 ⟨rfl, hd, f22⟩
          have hs22 := f22.1
          have hs19 := f1719.1
          intro p23 h24 hp23 e24
          have f24 := Fr.push e24
          have s24 := size_push e24
          have b23 : Blk h24 p23 (dc ⟨0, 0, [], ⟨0, 0, [], ⟨none, 0, 0⟩⟩, ⟨none, 0, 0⟩⟩) 26 := Blk.new hp23 e24
          refine ⟨b23.storable0 8 (Nat.le_refl _), fun h25 e25 => ?_⟩
          have f25 := Fr.sets e25
          have b23 := b23.set0 (vs := dc r20) (Nat.le_refl _) e25
          have f2225 : Fr [] h22 h25 := f24.trans f25 (fun y hy => .inr (by simp at hy; omega))
          have f1925 : Fr [] h19 h25 := f22.step f2225
          have a325 := a319.fr f1925 (by simp)
          have a425 := a419.fr f1925 (by simp)
          have a525 := a519.fr f1925 (by simp)
          have a725 := a219.fr f1925 (by simp)
          have a625 := a619.fr f1925 (by simp)
          have hl25 := f1925.at_ hl19 (by simp)
          have hs25 := f2225.1
          refine ⟨fun hne => ?_, fun heq => ?_⟩
          · have hne : ¬ (pParse u).2 = 0 := by simpa using hne
            have hR : R = (ds, (k : Int) + 1) := by
              rw [a8, readL, if_neg hu0, if_pos hne]; simp
            refine ⟨x, a525.cells0 rfl, _, a725.cells0 rfl, a325.storable0 1 (Nat.le_refl _), fun h28 e28 => ?_⟩
            have f28 := Fr.sets e28
            have a328 := a325.set0 (vs := [sl x]) (Nat.le_refl _) e28
            have a728 := a725.fr f28 (one_not (show p7 ≠ p1 by omega))
            have a428 := a425.fr f28 (one_not (show p3 ≠ p1 by omega))
            refine ⟨a728.cells0 rfl, a428.storable0 1 (Nat.le_refl _), fun h30 e30 => ?_⟩
            have f30 := Fr.sets e30
            have a430 := a428.set0 (vs := [.int .i64 ((k + 1 : Nat) : Int)]) (Nat.le_refl _) e30
            have a330 := a328.fr f30 (one_not (show p1 ≠ p3 by omega))
            have hl30 := f30.at_ (f28.at_ hl25 (one_not (show l ≠ p1 by omega))) (one_not (show l ≠ p3 by omega))
            refine ⟨hl30, fun h31 e31 => ?_⟩
            have f31 := Fr.lset e31
            have f2531 : Fr [p1, p3, p5, p7, l] h25 h31 := ((f28.sub (M' := [p1, p3, p5, p7, l]) (fun y hy => .inl (by simp at hy; simp [hy]))).trans f30 (fun y hy => .inl (by simp at hy; simp [hy]))).trans f31 (fun y hy => .inl (by simp at hy; simp [hy]))
            refine ⟨(w0.trans (FrL.of f1925 (by simp) (by omega))).trans (FrL.of f2531 (fun y hy => .inl hy) (by omega)), ?_⟩
            simp only [Bool.false_eq_true, if_false]
            refine ⟨lset_at (lt_of_at hl30) e31, ⟨x, O, a330.fr f31 (one_not (by omega)), ?_⟩, ?_⟩
            · rw [hR]; exact a625.fr f2531 (fun y hy => by simp at hy; omega)
            · rw [hR]
              exact (a430.fr f31 (one_not (by omega)))
          · have heq : (pParse u).2 = 0 := by simpa using heq
            refine ⟨x, a525.cells0 rfl, r20, b23.cells0 rfl, fun p33 h34 hp33 e34 => ?_⟩
            have hd := hd.bound
            have hd25 := hd.fr f2225 (by simp)
            have hOl := a619.ltO
            have hdl : ds.length ≤ 1048576 := by omega
            refine a625.app (d := (pParse u).1) (hd25.mono fun b hb => ⟨by omega, fun hm => by have := hOl b hm; omega⟩) hp33 e34 hdl fun s35 h36 O' a6' f36 => ?_
            have hfix : ∀ {b}, b < h13.size → b ∉ O := fun hb hm => by have := a625.low _ hm; omega
            have a536 := a525.fr f36 (hfix (by omega))
            refine ⟨a536.storable0 1 (Nat.le_refl _), fun h37 e37 => ?_⟩
            have f37 := Fr.sets e37
            have a537 := a536.set0 (vs := [sl s35]) (Nat.le_refl _) e37
            have f2537 : Fr (p5 :: O) h25 h37 := (f36.sub (M' := p5 :: O) (fun y hy => .inl (List.mem_cons_of_mem _ hy))).trans f37 (fun y hy => .inl (by simp at hy; simp [hy]))
            have hfix2 : ∀ {b}, b < h13.size → b ≠ p5 → b ∉ p5 :: O := fun hb h5 hm => by
              rcases List.mem_cons.1 hm with h | h
              · exact h5 h
              · exact hfix hb h
            have hl37 := f2537.at_ hl25 (hfix2 (by omega) (by omega))
            refine ⟨hl37, fun h38 e38 => ?_⟩
            have f38 := Fr.lset e38
            refine ⟨?_, ?_⟩
            · refine (w0.trans (FrL.of f1925 (by simp) (by omega))).trans (FrL.trans (FrL.of f2537 (fun y hy => ?_) (by omega)) (FrL.of f38 (fun y hy => .inl (by simp at hy; simp [hy])) (by have := f2537.1; omega)))
              rcases List.mem_cons.1 hy with h | h
              · exact .inl (by simp [h])
              · exact .inr (a625.low _ h)
            · simp only [if_true]
              have fM : Fr (l :: p5 :: O) h25 h38 := (f2537.sub (M' := l :: p5 :: O) (fun y hy => .inl (List.mem_cons_of_mem _ hy))).trans f38 (fun y hy => .inl (by simp at hy; simp [hy]))
              have hfix3 : ∀ {b}, b < h13.size → b ≠ p5 → b ≠ l → b ∉ l :: p5 :: O := fun hb h5 hl hm => by
                rcases List.mem_cons.1 hm with h | h
                · exact hl h
                · exact hfix2 hb h5 h
              refine ⟨lset_at (lt_of_at hl37) e38, a725.fr fM (hfix3 (by omega) (by omega) (by omega)), a325.fr fM (hfix3 (by omega) (by omega) (by omega)), a425.fr fM (hfix3 (by omega) (by omega) (by omega)), by omega, s35, O', ds ++ [(pParse u).1], a537.fr f38 (one_not (by omega)), (a6'.fr f37 (fun y hy => by simp at hy; omega)).fr f38 (fun y hy => by simp at hy; omega), by simp; omega, ?_⟩
              rw [a8, readL, if_neg hu0, if_neg (by simpa using heq)]
              simp
      · rintro _ g' ⟨b, rfl, hb⟩
        exact ⟨b, rfl, hb⟩
  refine CallE.func (hr := by intro _ _; kernel_rfl) (CallH.mono hcut ?_ fun _ _ h => h)
  rintro _ h39 ⟨hor, hD39, f39⟩
  have hs39 := f39.1
  have fin : ∀ {gx : Hp} {x : Sl} {r : Int} {O : List Nat}, Blk gx p1 [sl x] 33 → Blk gx p3 [.int .i64 r] 3 → gx[D]? = some (.deferred (some [])) → Fr [] h gx → AccD h13.size gx x R.1 O → r = R.2 →
      ShutW [D] gx (fun h44 => LoadW h44 ⟨p1, 0, none⟩ cL (fun (x45 : Sl) => LoadW h44 ⟨p3, 0, none⟩ (cI .i64) (fun (x46 : Int) => (fun x n h' => n = (pReads s).2 ∧ (∃ vs, RepS dc h' (fun b => h.size ≤ b) x vs ∧ RepDL h' (fun b => h.size ≤ b) vs (pReads s).1) ∧ Fr [] h h') x45 x46 h44))) := by
    intro gx x r O k1 k3 kD kf ka hr
    refine ⟨kD, fun g' e' => ?_⟩
    have f' := Fr.lset e'
    have ka' := ka.fr f' (fun y hy => by simp at hy; omega)
    obtain ⟨vs, k5, k6⟩ := ka'.rep
    refine ⟨x, (k1.fr f' (one_not (by omega))).cells0 rfl, r, (k3.fr f' (one_not (by omega))).cells0 rfl, hr, ⟨vs, k5.rep (fun b hb => by have := ka.low b hb; omega), k6.mono fun b hb => by have := hb.1; omega⟩, kf.trans f' (fun y hy => .inr (by simp at hy; omega))⟩
  rcases hor with ⟨hl39, hR0, ⟨x, O, k5, ka⟩, k1, k3⟩ | ⟨hl39, ⟨x, O, k1, ka⟩, k3⟩
  · refine .inl ⟨hl39, fun h40 e40 => ?_⟩
    have f40 := Fr.lset e40
    have k540 := k5.fr f40 (one_not (by omega))
    have k140 := k1.fr f40 (one_not (by omega))
    have k340 := k3.fr f40 (one_not (by omega))
    refine ⟨x, k540.cells0 rfl, k140.storable0 1 (Nat.le_refl _), fun h42 e42 => ?_⟩
    have f42 := Fr.sets e42
    have k142 := k140.set0 (vs := [sl x]) (Nat.le_refl _) e42
    have k342 := k340.fr f42 (one_not (show p3 ≠ p1 by omega))
    refine ⟨k342.storable0 1 (Nat.le_refl _), fun h43 e43 => ?_⟩
    have f43 := Fr.sets e43
    have k343 := k342.set0 (vs := [.int .i64 0]) (Nat.le_refl _) e43
    have k143 := k142.fr f43 (one_not (show p1 ≠ p3 by omega))
    have ff : Fr [p1, p3, l] h39 h43 := ((f40.sub (M' := [p1, p3, l]) (fun y hy => .inl (by simp at hy; simp [hy]))).trans f42 (fun y hy => .inl (by simp at hy; simp [hy]))).trans f43 (fun y hy => .inl (by simp at hy; simp [hy]))
    exact fin k143 k343 (ff.at_ hD39 (by simp; omega)) (f39.trans ff (fun y hy => .inr (by simp at hy; omega))) (ka.fr ff (fun y hy => by simp at hy; omega)) hR0.symm
  · refine .inr ⟨.ret, hl39, fun h40 e40 => ⟨rfl, ?_⟩⟩
    have f40 := Fr.lset e40
    exact fin (k1.fr f40 (one_not (by omega))) (k3.fr f40 (one_not (by omega))) (f40.at_ hD39 (one_not (by omega))) (f39.trans f40 (fun y hy => .inr (by simp at hy; omega))) (ka.fr f40 (fun y hy => by simp at hy; omega)) rfl
end Go.Proofs.YtefbonjcpdjhcaaGreatDoor.X

/- Stage 2: the document's Read; the statement ScriptReads, as a call. -/
set_option linter.unusedVariables false
set_option maxRecDepth 100000
namespace Go.Proofs.YtefbonjcpdjhcaaGreatDoor.X
open Go Go.RowKit

theorem splitL_10 {r : Str} : splitL (10 :: r) = [] :: splitL r := by rw [splitL, if_pos rfl]
theorem splitL_other {c : UInt8} {r : Str} (h : c ≠ 10) : ∃ x xs, splitL r = x :: xs ∧ splitL (c :: r) = (c :: x) :: xs := by
  cases hr : splitL r with
  | nil => exact absurd hr (splitL_ne r)
  | cons x xs => exact ⟨x, xs, rfl, by rw [splitL, if_neg h, hr]⟩
theorem Read31_ok {h : Hp} {s : Str} (hs : s.length ≤ 1000000) (X : Chain → Hp → Prop) :
    F_tenureref31_Read.call s h (fun x n h' => n = (pReads s).2 ∧ (∃ vs, RepS dc h' (fun b => h.size ≤ b) x vs ∧ RepDL h' (fun b => h.size ≤ b) vs (pReads s).1) ∧ Fr [] h h') X := by
  refine F_tenureref31_Read.sound ?_
  unfold F_tenureref31_Read.body
  have hmx : maxLen = 9223372036854775807 := rfl
  let R := readL (splitL s) 1
  refine ⟨fun st g => ∃ ds O, ∃ k : Nat, st.2.2.2 = (k : Int) ∧ AccD h.size g st.1 ds O ∧ Fr [] h g ∧ k ≤ s.length + 1 ∧ ds.length ≤ k ∧ 1 ≤ st.2.2.1 ∧ st.2.2.1 ≤ (k : Int) + 1 ∧
      (k ≤ s.length → st.2.1.length ≤ k ∧ ∃ x xs, splitL (s.drop k) = x :: xs ∧ R = (ds ++ (readL ((st.2.1 ++ x) :: xs) st.2.2.1).1, (readL ((st.2.1 ++ x) :: xs) st.2.2.1).2)) ∧ (k = s.length + 1 → R = (ds, 0)),
    fun st _ => ((s.length : Int) + 1 - st.2.2.2).toNat, ⟨[], [], 0, rfl, AccD.nil (Nat.le_refl _), Fr.refl _ _, by omega, by simp, by decide, by decide, fun _ => ⟨by simp, ?_⟩, fun e => by omega⟩, ?_⟩
  · rw [List.drop_zero]
    cases hr : splitL s with
    | nil => exact absurd hr (splitL_ne s)
    | cons x xs => exact ⟨x, xs, rfl, by show readL (splitL s) 1 = _; rw [hr]; rfl⟩
  rintro ⟨out, line, num, _⟩ g ⟨ds, O, k, rfl, ha, fg, hk, hdk, hn1, hn2, hin, hend⟩
  simp only at ha hn1 hn2 hin hend ⊢
  have hfg := fg.1
  refine ⟨fun hle => ?_, fun hgt => ?_⟩
  · have hle : k ≤ s.length := by omega
    obtain ⟨hll, x, xs, hsp, hR⟩ := hin hle
    refine ⟨fun q g' => ∃ ds O, AccD h.size g' q.1 ds O ∧ Fr [] h g' ∧ ds.length ≤ k + 1 ∧ 1 ≤ q.2.2 ∧ q.2.2 ≤ ((k + 1 : Nat) : Int) + 1 ∧
      (k + 1 ≤ s.length → q.2.1.length ≤ k + 1 ∧ ∃ x xs, splitL (s.drop (k + 1)) = x :: xs ∧ R = (ds ++ (readL ((q.2.1 ++ x) :: xs) q.2.2).1, (readL ((q.2.1 ++ x) :: xs) q.2.2).2)) ∧ (k + 1 = s.length + 1 → R = (ds, 0)),
      ⟨fun hlt => ⟨by omega, by omega⟩, fun hc => ?_, fun hc => ?_⟩, ?_⟩
    · -- a byte more
      simp only [Bool.and_eq_true, decide_eq_true_eq] at hc
      have hlt : k < s.length := by omega
      obtain ⟨c, rr, hcd⟩ : ∃ c rr, s.drop k = c :: rr := ⟨s[k], s.drop (k + 1), List.drop_eq_getElem_cons hlt⟩
      have hck : s[k] = c := by
        have h1 := List.drop_eq_getElem_cons hlt
        rw [hcd] at h1
        injection h1 with h1 _
        exact h1.symm
      have hc10 : c ≠ 10 := by
        rintro rfl
        rw [bt_drop hcd] at hc
        exact absurd hc.2 (by decide)
      have e1 : IntKind.i64.wrap ((k : Int) + 1) = ((k + 1 : Nat) : Int) := by rw [wrap64 (by omega) (by omega)]; omega
      rw [e1, sub_one hlt, hck]
      obtain ⟨y, ys, h1, h2⟩ := splitL_other (r := rr) hc10
      rw [hcd, h2] at hsp
      injection hsp with h3 h4
      subst h3 h4
      refine ⟨⟨by omega, by omega, by omega⟩, by simp; omega, ds, O, ha, fg, by omega, hn1, by show num ≤ ((k + 1 : Nat) : Int) + 1; omega, fun _ => ⟨by simp; omega, y, ys, by rw [drop_succ_of hcd, h1], ?_⟩, fun e => by omega⟩
      show R = (ds ++ (readL (((line ++ [c]) ++ y) :: ys) num).1, _)
      rw [List.append_assoc]
      exact hR
    · -- a line's end
      have hx : x = [] ∧ (k < s.length → xs = splitL (s.drop (k + 1))) ∧ (k = s.length → xs = []) := by
        rcases Nat.lt_or_ge k s.length with hlt | hge
        · obtain ⟨c, rr, hcd⟩ : ∃ c rr, s.drop k = c :: rr := ⟨s[k], s.drop (k + 1), List.drop_eq_getElem_cons hlt⟩
          rw [bt_drop hcd, decide_eq_true (show (k : Int) < (s.length : Int) by omega)] at hc
          simp only [Bool.true_and, bne_eq_false_iff_eq] at hc
          have : c = 10 := UInt8.toNat_inj.1 (by have h10 : (10 : UInt8).toNat = 10 := rfl; omega)
          subst this
          rw [hcd, splitL_10] at hsp
          injection hsp with h1 h2
          exact ⟨h1.symm, fun _ => by rw [← h2, drop_succ_of hcd], fun e => by omega⟩
        · have hke : k = s.length := by omega
          rw [List.drop_eq_nil_of_le (by omega)] at hsp
          injection hsp with h1 h2
          exact ⟨h1.symm, fun e => by omega, fun _ => h2.symm⟩
      obtain ⟨rfl, hx1, hx2⟩ := hx
      rw [List.append_nil] at hR
      have hnl : Small line := by unfold Small; omega
      -- what follows the line
      have after : ∀ {ds' : List Dd} {O' : List Nat} {g' : Hp} {out' : Sl}, AccD h.size g' out' ds' O' → Fr [] h g' → ds'.length ≤ k + 1 → R = (ds' ++ (readL xs (num + 1)).1, (readL xs (num + 1)).2) →
          ∀ x25 : Int, x25 = IntKind.i64.wrap (num + 1) → ∃ ds O, AccD h.size g' out' ds O ∧ Fr [] h g' ∧ ds.length ≤ k + 1 ∧ 1 ≤ x25 ∧ x25 ≤ ((k + 1 : Nat) : Int) + 1 ∧
      (k + 1 ≤ s.length → ([] : Str).length ≤ k + 1 ∧ ∃ x xs, splitL (s.drop (k + 1)) = x :: xs ∧ R = (ds ++ (readL (([] ++ x) :: xs) x25).1, (readL (([] ++ x) :: xs) x25).2)) ∧ (k + 1 = s.length + 1 → R = (ds, 0)) := by
        intro ds' O' g' out' a' f' hl' hR' x25 hx25
        rw [wrap64 (by omega) (by omega)] at hx25
        subst hx25
        refine ⟨ds', O', a', f', hl', by omega, by omega, fun hlt => ⟨by simp, ?_⟩, fun hke => ?_⟩
        · rw [hx1 (by omega)] at hR'
          cases hr : splitL (s.drop (k + 1)) with
          | nil => exact absurd hr (splitL_ne _)
          | cons y ys => rw [hr] at hR'; exact ⟨y, ys, rfl, hR'⟩
        · rw [hx2 (by omega)] at hR'
          simpa [readL] using hR'
      refine ⟨fun x g' => ∃ ds' O', AccD h.size g' x ds' O' ∧ Fr [] h g' ∧ ds'.length ≤ k + 1 ∧ R = (ds' ++ (readL xs (num + 1)).1, (readL xs (num + 1)).2), ⟨fun hne => ?_, fun heq => ?_⟩, ?_⟩
      · have hne : ¬ line = [] := by simpa [cmpS] using hne
        rw [readL, if_neg hne] at hR
        refine F_tenureref31_Parse.mono (Parse31_ok hnl _) ?_ fun _ _ h => h
        rintro r15 r16 h17 ⟨rfl, hd, f17⟩
        have hs17 := f17.1
        refine ⟨fun he p18 h20 hn18 ev20 => ?_, fun he p18 h20 hn18 ev20 => ?_⟩
        · have he : ¬ (pParse line).2 = 0 := by simpa using he
          rw [if_pos he] at hR
          have hn18' := hn18.1
          have a20 := (ha.fr f17 (by simp))
          obtain ⟨vs, k5, k6⟩ := a20.rep
          have f20 : Fr [] h h20 := (fg.step f17).trans ev20.fr (fun y hy => .inr (by simp at hy; omega))
          have hOl := a20.ltO
          have k6 := k6.bound
          have k5' := (k5.fr ev20.fr (fun y hy hm => by have := hOl y hy; simp at hm; omega))
          have k6' := k6.fr ev20.fr (fun b hb hm => by simp at hm; omega)
          show num = (R).2 ∧ (∃ vs, RepS dc h20 (fun b => h.size ≤ b) out vs ∧ RepDL h20 (fun b => h.size ≤ b) vs (R).1) ∧ Fr [] h h20
          rw [hR]
          refine ⟨rfl, ⟨vs, k5'.rep (fun b hb => ha.low b hb), ?_⟩, f20⟩
          simp only [List.append_nil]
          exact k6'.mono fun b hb => hb.1.1
        · have he : (pParse line).2 = 0 := by simpa using he
          rw [if_neg (by simpa using he)] at hR
          have hn18' := hn18.1
          have hn18'' := hn18.2
          have hs20 := ev20.size
          have a17 := ha.fr f17 (by simp)
          have hOl := a17.ltO
          have hOg := ha.ltO
          have hd := hd.bound
          have hd20 := hd.fr ev20.fr (fun b hb hm => by simp at hm; omega)
          have f20 : Fr [] h h20 := (fg.step f17).trans ev20.fr (fun y hy => .inr (by simp at hy; omega))
          have a20 : AccD h.size h20 out ds O := by
            obtain ⟨vs, k5, k6⟩ := a17.rep
            have k6 := k6.bound
            exact ⟨a17.one, a17.low, by omega, vs, k5.fr ev20.fr (fun y hy hm => by have := hOl y hy; simp at hm; omega), (k6.fr ev20.fr (fun b hb hm => by simp at hm; omega)).mono fun b hb => hb.1⟩
          intro p21 h22 hp21 e22
          refine a20.app (d := (pParse line).1) (hd20.mono fun b hb => ⟨by omega, fun hm => by have := hOg b hm; omega⟩) hp21 e22 (by omega) fun s23 h24 O' a24 f24 => ?_
          have f22 := Fr.push e22
          have s22 := size_push e22
          refine ⟨fun q hq => ?_, ds ++ [(pParse line).1], O', a24, f20.trans f24 (fun y hy => .inr (ha.low y hy)), by simp; omega, by rw [hR]; simp⟩
          simp at hq
          subst hq
          rw [f24.2 _ (by omega) (fun hm => by have := hOg _ hm; omega), f22.2 _ (by omega) (by simp)]
      · have heq : line = [] := by simpa [cmpS] using heq
        rw [readL, if_pos heq] at hR
        exact ⟨ds, O, ha, fg, by omega, hR⟩
      · rintro x g' ⟨ds', O', a', f', hl', hR'⟩
        exact after a' f' hl' hR'
    · rintro ⟨out', line', num'⟩ g' ⟨ds', O', a', f', hl', hm1, hm2, hin', hend'⟩
      rintro x26 hx26
      rw [wrap64 (by omega) (by omega)] at hx26
      subst hx26
      exact ⟨⟨ds', O', k + 1, by show (k : Int) + 1 = ((k + 1 : Nat) : Int); omega, a', f', by omega, hl', hm1, hm2, hin', hend'⟩, by show ((s.length : Int) + 1 - ((k : Int) + 1)).toNat < ((s.length : Int) + 1 - (k : Int)).toNat; omega⟩
  · have hR := hend (by omega)
    obtain ⟨vs, k5, k6⟩ := ha.rep
    show (0 : Int) = (R).2 ∧ (∃ vs, RepS dc g (fun b => h.size ≤ b) out vs ∧ RepDL g (fun b => h.size ≤ b) vs (R).1) ∧ Fr [] h g
    rw [hR]
    exact ⟨rfl, ⟨vs, k5.rep (fun b hb => ha.low b hb), k6.mono fun b hb => hb.1⟩, fg⟩

/-! ### The deeds of lines are small -/
theorem readL_num : ∀ (l : List Str) (n : Int) (L : Nat), (∀ x ∈ l, x.length ≤ L) → ∀ d ∈ (readL l n).1, (pre d.t).length ≤ L + 1 ∧ (preL d.l).length ≤ L
  | [], n, L, _, d, hd => by simp [readL] at hd
  | seg :: r, n, L, hL, d, hd => by
    have ih := readL_num r (n + 1) L fun x hx => hL x (by simp [hx])
    rw [readL] at hd
    split at hd
    · exact ih d hd
    · split at hd
      · simp at hd
      · rcases List.mem_cons.1 hd with rfl | hd
        · have := pParse_num seg
          have := hL seg (by simp)
          omega
        · exact ih d hd
theorem ScriptReads_ok {h : Hp} {text : Str} (g : Gl h) (X : Chain → Hp → Prop) : F_tenurelaw31_ScriptReads.call text h (fun r h' => r = true ∧ Fr [] h h') X := by
  refine F_tenurelaw31_ScriptReads.sound ?_
  unfold F_tenurelaw31_ScriptReads.body
  refine ⟨fun _ => ⟨rfl, Fr.refl _ _⟩, fun hl => ?_⟩
  have hs : Small text := by unfold Small; omega
  refine F_script_Read.mono (F_script_Read.ok g hs _) ?_ fun _ _ h => h
  rintro x n h3 ⟨rfl, ⟨vs, hx, hvs⟩, f3⟩
  refine F_tenureref31_Read.mono (Read31_ok (by omega) _) ?_ fun _ _ h => h
  rintro y m h6 ⟨rfl, ⟨us, hy, hus⟩, f6⟩
  have f06 := f3.step f6
  have hx6 := hx.fr f6 (by simp)
  have hvs6 := hvs.fr f6 (by simp)
  have h1 := hvs.length
  have h2 := hus.length
  have h3' := hx.1
  have h4' := hy.1
  have hnum := readL_num (splitL text) 1 text.length (splitL_small text)
  have hcount : (pReads text).1.length ≤ text.length + 1 := by
    have key : ∀ (l : List Str) (n : Int), (readL l n).1.length ≤ l.length := by
      intro l
      induction l with
      | nil => intro n; simp [readL]
      | cons seg r ih =>
        intro n
        rw [readL]
        have := ih (n + 1)
        split
        · simp; omega
        · split
          · simp
          · simp; omega
    have h5 := key (splitL text) 1
    have h6 := splitL_len text
    exact Nat.le_trans h5 h6
  refine ⟨fun hc => ?_, fun _ => ?_⟩
  · exfalso
    have : (x.len : Int) = (y.len : Int) := by omega
    simp [this] at hc
  refine ⟨fun i gg => ∃ k : Nat, i = (k : Int) ∧ k ≤ vs.length ∧ Fr [] h6 gg, fun i _ => ((vs.length : Int) - i).toNat, ⟨0, rfl, by omega, Fr.refl _ _⟩, ?_⟩
  rintro _ gg ⟨k, rfl, hk, fg⟩
  refine ⟨fun hlt => ?_, fun _ => ?_⟩
  · have hlt : k < vs.length := by omega
    have hvk : vs[k]? = some vs[k] := List.getElem?_eq_getElem hlt
    have huk : us[k]? = some us[k] := List.getElem?_eq_getElem (by omega)
    obtain ⟨d, hd, hvd⟩ := (hvs6.fr fg (by simp)).get hvk
    obtain ⟨d', hd', hud⟩ := (hus.fr fg (by simp)).get huk
    rw [hd] at hd'; injection hd' with hd'; subst hd'
    obtain ⟨a, ha, hca⟩ := (hx6.fr fg (by simp)).get dc_len hvk
    obtain ⟨b, hb, hcb⟩ := (hy.fr fg (by simp)).get dc_len huk
    have hdn := hnum d (List.mem_of_getElem? hd)
    refine IdxW.of (by omega) ha ⟨vs[k], hca, IdxW.of (by omega) hb ⟨us[k], hcb, ?_⟩⟩
    refine F_tenurelaw31_same.mono (same_ok (by omega) (by omega) hvd hud _) ?_ fun _ _ h => h
    rintro r h17 ⟨rfl, f17⟩
    refine ⟨fun e => (by cases e), fun _ x18 hx18 => ?_⟩
    rw [wrap64 (by omega) (by omega)] at hx18
    subst hx18
    exact ⟨⟨k + 1, by omega, by omega, fg.step f17⟩, by show ((vs.length : Int) - ((k : Int) + 1)).toNat < ((vs.length : Int) - (k : Int)).toNat; omega⟩
  · have f0 := f06.step fg
    refine F_tenurelaw31_awake.mono (awake_ok (g.fr f0 (by simp)) _) ?_ fun _ _ h => h
    rintro r h20 ⟨rfl, f20⟩
    exact ⟨rfl, f0.step f20⟩
end Go.Proofs.YtefbonjcpdjhcaaGreatDoor.X

/- Row and card: what the world gives; ScriptParses. -/
set_option linter.unusedVariables false
namespace Go.Proofs.YtefbonjcpdjhcaaGreatDoor.X
open Go Go.ChangeShapes Go.WideShapes Go.ChangeAt Go.RowKit
open Go.ChangeMaps (open_string shut_string)

theorem own : ownKnob Tryz.prog.godebug = none := by kernel_rfl
theorem star : "*" ++ "errors.errorString" = "*errors.errorString" := by decide
theorem row173 (u : TypeId) (h : Tryz.prog.typeName? 3 u = some "*errors.errorString") : u = 173 :=
  typeName_ptr_named (nm := "errors.errorString") (by rw [star]; kernel_rfl) (by kernel_rfl) (by decide) u (by rw [star]; exact h)
theorem cells147 : Tryz.prog.cellsOf 147 = 1 := by kernel_rfl
theorem cells169 : Tryz.prog.cellsOf 169 = 20 := by kernel_rfl
theorem pow_block {W : World} {r : List (String × DataW Unit)} (h : laidMet Tryz.prog (("internal/strconv.uint64pow10", Rows.laid_internal_strconv_uint64pow10) :: r) W) :
    ∃ ty fr, W.heap[5]? = some (.cells (Lib.pow10Tab.map fun z => Value.int .u64 z).toArray ty fr) := by
  have ht : Lib.TabIs Tryz.prog W "internal/strconv.uint64pow10" .u64 Lib.pow10Tab :=
    Lib.tabIs_of_head (rest := r) (g := 5) (t := 169) (e := 147) (n := 20) (by kernel_rfl) (by kernel_rfl) Tryz.underlying169 Tryz.underlying147 cells147 cells169 h
  unfold Lib.TabIs World.var? at ht
  rw [show Tryz.prog.globalNamed "internal/strconv.uint64pow10" = some 5 by kernel_rfl] at ht
  simp only [Option.bind_some] at ht
  split at ht
  · rename_i cs ty fr hb
    injection ht with ht
    exact ⟨ty, fr, by rw [hb, ht]⟩
  · cases ht
theorem err_cell {W : World} {n : String} {text : List UInt8} {r : List (String × DataW Unit)} {g : Nat} (h : laidMet Tryz.prog ((n, .iface "*errors.errorString" (.ptr (.agg [.lit (.string text)]))) :: r) W)
    (hg : Tryz.prog.globalNamed n = some g) (ht : (Tryz.prog.globals[g]?).map (·.type) = some 75) : ∃ t p, hcell W.heap ⟨g, 0, none⟩ = some (.iface t p) := by
  obtain ⟨a, s, hv, _⟩ := laid_sentinel (g := g) h hg ht Tryz.underlying75 row173 Tryz.underlying173 Tryz.underlying175 rfl rfl Tryz.underlying9 (by kernel_rfl) (by kernel_rfl)
  have := World.var?_cell hg hv 0
  exact ⟨_, _, by rw [← cell_heap]; simpa using this⟩
theorem gl_of {W : World} (hsh : W.ShapedOpen Tryz.prog) {r r1 r2 : List (String × DataW Unit)} (hp : laidMet Tryz.prog (("internal/strconv.uint64pow10", Rows.laid_internal_strconv_uint64pow10) :: r) W)
    (hr : laidMet Tryz.prog (("strconv.ErrRange", Rows.laid_strconv_ErrRange) :: r1) W) (hs : laidMet Tryz.prog (("strconv.ErrSyntax", Rows.laid_strconv_ErrSyntax) :: r2) W) : Gl W.heap := by
  obtain ⟨cs, hh, _⟩ := hsh.1 7 (Array.replicate 64 (.int .u8 0)) 178 (of_decide_eq_true (by kernel_rfl)) (by kernel_rfl)
  have hsz : 7 < W.heap.size := by
    rcases Nat.lt_or_ge 7 W.heap.size with h | h
    · exact h
    · rw [Array.getElem?_eq_none h] at hh; cases hh
  exact ⟨by rw [globals_size]; omega,
    Go.Proofs.cell_of_shapedOpen_int (zero := #[.int .i64 0]) (t := 3) hsh (of_decide_eq_true (by kernel_rfl)) (by kernel_rfl) rfl (by kernel_rfl) (by kernel_rfl) Tryz.underlying3,
    err_cell (g := 1) hs (by kernel_rfl) (by kernel_rfl), err_cell (g := 2) hr (by kernel_rfl) (by kernel_rfl), pow_block hp⟩

/-! ### The witness -/
/-- The settled world with two blocks more (the errors' structs), the variables holding what their initialisers lay. -/
noncomputable def laidWorld (os : Os) : World :=
  let N := (World.settled Tryz.prog os).heap.size
  let w0 := World.holding Tryz.prog os ⟨#[.cells #[.string ⟨#[105, 110, 118, 97, 108, 105, 100, 32, 115, 121, 110, 116, 97, 120]⟩] 175, .cells #[.string ⟨#[118, 97, 108, 117, 101, 32, 111, 117, 116, 32, 111, 102, 32, 114, 97, 110, 103, 101]⟩] 175], #[], []⟩
  let put (h : Array Obj) (g : Nat) (cs : Array Value) : Array Obj := h.modify g fun
    | .cells _ t frozen => .cells cs t frozen
    | o => o
  let h1 := put w0.heap 1 #[.iface 173 (.pointer (some ⟨N, 0, none⟩))]
  let h2 := put h1 2 #[.iface 173 (.pointer (some ⟨N + 1, 0, none⟩))]
  let h3 := put h2 5 (Lib.pow10Tab.map fun z => Value.int .u64 z).toArray
  let h4 := put h3 6 ([0, 1, 28, 2, 29, 14, 24, 3, 30, 22, 20, 15, 25, 17, 4, 8, 31, 27, 13, 23, 21, 19, 16, 7, 26, 12, 18, 6, 11, 5, 10, 9].map fun z => Value.int .u8 z).toArray
  let h5 := put h4 7 ([0, 1, 56, 2, 57, 49, 28, 3, 61, 58, 42, 50, 38, 29, 17, 4, 62, 47, 59, 36, 45, 43, 51, 22, 53, 39, 33, 30, 24, 18, 12, 5, 63, 55, 48, 27, 60, 41, 37, 16, 46, 35, 44, 21, 52, 32, 23, 11, 54, 26, 40, 15, 34, 20, 31, 10, 25, 14, 19, 9, 13, 8, 7, 6].map fun z => Value.int .u8 z).toArray
  { w0 with heap := h5 }
theorem laid_met5 (os : Os) (args : Array Value) : laidMet Tryz.prog Rows.scriptParsesRow.laid ((laidWorld os).forCall (fun _ _ => 0) ⟨#[], args, []⟩).memory :=
  laidMet_of_run' 8 (by kernel_rfl) (by kernel_rfl)
theorem witness_parses (os : Os) {H : Type} (enc : TypeId × Value → H) :
    (OpenSpec.ofChange Rows.scriptParsesSpec).preRow enc Tryz.prog Tryz.f3 Rows.scriptParsesRow.domain false Rows.scriptParsesRow.laid ((laidWorld os).forCall (fun _ _ => 0) ⟨#[], #[.string ⟨#[]⟩], []⟩).memory #[.string ⟨#[]⟩] := by
  have hw : (DataW.whole enc Tryz.prog ((laidWorld os).forCall (fun _ _ => 0) ⟨#[], #[.string ⟨#[]⟩], []⟩).memory Tryz.f3.params.toList Rows.scriptParsesSpec.vars false #[Value.string ⟨#[]⟩].toList 8).map (fun x => (x.1, x.2.1)) =
      some ([.lit (.string [])], []) := by kernel_rfl
  obtain ⟨⟨x1, x2, x3⟩, hx, hx1⟩ := Option.map_eq_some_iff.1 hw
  simp only [Prod.mk.injEq] at hx1
  obtain ⟨rfl, rfl⟩ := hx1
  exact OpenSpec.preRow_of_cond 8 hx (by kernel_rfl) (fun k hk => by cases hk) (by kernel_rfl) (laid_met5 os _)

set_option maxRecDepth 100000 in
theorem parses_lifted (os : Os) (started : os.Started) (H : Type) (enc : TypeId × Value → H) (F : Stop.Interp) :
    ReturnsInHanded {} Tryz.checked os 3 .any ((OpenSpec.ofChange Rows.scriptParsesSpec).preRow enc Tryz.prog Tryz.f3 Rows.scriptParsesRow.domain false Rows.scriptParsesRow.laid) (((OpenSpec.ofChange Rows.scriptParsesSpec).at F).post enc Tryz.prog Tryz.f3 false true false false) := by
  refine returnsInHanded_of_row (C := Tryz.checked) (s := OpenSpec.ofChange Rows.scriptParsesSpec) own started (by kernel_rfl) Tryz.func3
    (witness_row_atRef (enc := enc) (C := Tryz.checked) false (laidWorld os) #[.string ⟨#[]⟩] rfl (by kernel_rfl) (by kernel_rfl) (by kernel_rfl) (witness_parses os enc)) ?_
  intro W base args ds gs before hval0 hW _ _ _ hL hsh _
  have hval : ∀ (j : Nat) t v, Tryz.f3.params[j]? = some t → args[j]? = some v → Value.okWide Tryz.prog W .any base t v := hval0
  have hW' := hW
  obtain ⟨p, q, hA0, hV0, rfl, _, _⟩ := hW
  have hA : DataW.TrodAll enc Tryz.prog W 0 (fun _ => true) true Tryz.f3.params.toList args.toList ds p := hA0
  rw [Tryz.params3] at hA hval
  obtain ⟨v0, d0, rfl, rfl, h0⟩ := trodAll_one hA
  obtain ⟨rfl, rfl⟩ := trodVars_none hV0
  obtain ⟨s, rfl, rfl, rfl, ws⟩ := open_string Tryz.underlying9 (hval 0 9 v0 rfl rfl) h0
  clear hA0 hV0 hval0
  have hL' : laidMet Tryz.prog Rows.scriptParsesRow.laid W := hL
  have g : Gl W.heap := gl_of hsh hL'.tail.tail hL'.tail.tail.tail hL'.tail.tail.tail.tail
  have hc := ScriptParses_ok (line := s.data.toList) g (fun _ _ => False) W rfl
  have hs : ba s.data.toList = s := by cases s; simp [ba]
  rw [hs] at hc
  refine hc.mono ?_
  intro e W' he
  cases e with
  | returned v =>
    obtain ⟨hwd, r, rfl, rfl, hfr⟩ := he
    have bel : Below W.heap.size W W' := ⟨hwd.os, hwd.tape, hwd.output, hfr.1, fun k hk => hfr.2 k hk (by simp)⟩
    have e1 : ((OpenSpec.ofChange Rows.scriptParsesSpec).at F).fn H ([.lit (.string s.data.toList)] ++ []) = { results := [.lit (.bool true)], args := [.lit (.string s.data.toList)] } := rfl
    refine ⟨_, rfl, _, _, _, [], [], [], hW', ?_, ?_, ?_, bel.frame _, fun h => by cases h⟩
    · rw [e1]; exact trodAll_mk1 (shut_bool Tryz.underlying4 _)
    · rw [e1]; exact trodAll_mk1 (shut_string Tryz.underlying9 ws)
    · rw [e1]; rfl
  | panicked c => exact he.2.elim
  | outgrown => exact he.elim
theorem parses_said : Rows.ScriptParsesSaid :=
  OpenClaim.holds_of_cond 3 Tryz.f3 rfl rfl rfl rfl rfl rfl rfl ⟨rfl, rfl, rfl, rfl, rfl⟩ rfl rfl rfl rfl rfl (by kernel_rfl) Tryz.func3 (by kernel_rfl)
    (of_decide_eq_true (by kernel_rfl)) (by unfold Func.isWrapper; first | (rw [if_pos (by decide +kernel)]; kernel_rfl) | (rw [if_neg (by decide +kernel)]; exact ⟨rfl, rfl⟩))
    (fun os started H enc _ F => by rw [OpenClaim.pre_eq_preRow]; exact parses_lifted os started H enc F)
theorem parses_plain (f : FuncId) (fn : Func) (hf : Tryz.pinned.checked.prog.funcNamed "tenure/tenurelaw31.ScriptParses" = some f) (hfn : Tryz.pinned.checked.prog.funcs[f]? = some fn) :
    true = Tryz.pinned.checked.prog.looks [] ∧ ∀ (j : Nat) t, fn.params[j]? = some t → Tryz.pinned.checked.prog.wantsStandIn t = false := by
  obtain rfl : f = 3 := Option.some.inj ((show Tryz.prog.funcNamed "tenure/tenurelaw31.ScriptParses" = some 3 by kernel_rfl).symm.trans hf) |>.symm
  obtain rfl : fn = Tryz.f3 := (Option.some.inj (Tryz.func3.symm.trans hfn)).symm
  refine ⟨by kernel_rfl, fun j t ht => ?_⟩
  rw [Tryz.params3] at ht
  obtain rfl : t = 9 := by simpa using Array.mem_of_getElem? ht
  exact (show Tryz.prog.wantsStandIn 9 = false by kernel_rfl)
end Go.Proofs.YtefbonjcpdjhcaaGreatDoor.X
namespace Go.Proofs.YtefbonjcpdjhcaaGreatDoor
open Go
theorem scriptParses_card : Rows.ScriptParsesCardSaid :=
  Claim7.holds_tied_plain_at .later [] _ _ _ _ X.parses_said (fun _ h => by cases h) (by kernel_rfl) (fun _ h => by cases h) scriptParses_row_tie rfl ⟨rfl, rfl⟩ (by kernel_rfl) rfl X.parses_plain (by kernel_rfl)
#print axioms scriptParses_card
end Go.Proofs.YtefbonjcpdjhcaaGreatDoor

/- Row and card: ScriptReads. -/
set_option linter.unusedVariables false
namespace Go.Proofs.YtefbonjcpdjhcaaGreatDoor.X
open Go Go.ChangeShapes Go.WideShapes Go.ChangeAt Go.RowKit
open Go.ChangeMaps (open_string shut_string)

/-- The settled world with two blocks more (the errors' structs), the variables holding what their initialisers lay; the tables of unicode/utf8 too. -/
noncomputable def laidWorld7 (os : Os) : World :=
  let put (h : Array Obj) (g : Nat) (cs : Array Value) : Array Obj := h.modify g fun
    | .cells _ t frozen => .cells cs t frozen
    | o => o
  let w0 := laidWorld os
  let h1 := put w0.heap 3 (Go.Pinned.utf8FirstZ.map fun (z : Nat) => Value.int .u8 (z : Int)).toArray
  let h2 := put h1 4 (([128, 191, 160, 191, 128, 159, 144, 191, 128, 143] ++ List.replicate 22 0 : List Int).map fun z => Value.int .u8 z).toArray
  { w0 with heap := h2 }
theorem laid_met7 (os : Os) (args : Array Value) : laidMet Tryz.prog Rows.scriptReadsRow.laid ((laidWorld7 os).forCall (fun _ _ => 0) ⟨#[], args, []⟩).memory :=
  laidMet_of_run' 9 (by kernel_rfl) (by kernel_rfl)
theorem witness_reads (os : Os) {H : Type} (enc : TypeId × Value → H) :
    (OpenSpec.ofChange Rows.scriptReadsSpec).preRow enc Tryz.prog Tryz.f4 Rows.scriptReadsRow.domain false Rows.scriptReadsRow.laid ((laidWorld7 os).forCall (fun _ _ => 0) ⟨#[], #[.string ⟨#[]⟩], []⟩).memory #[.string ⟨#[]⟩] := by
  have hw : (DataW.whole enc Tryz.prog ((laidWorld7 os).forCall (fun _ _ => 0) ⟨#[], #[.string ⟨#[]⟩], []⟩).memory Tryz.f4.params.toList Rows.scriptReadsSpec.vars false #[Value.string ⟨#[]⟩].toList 8).map (fun x => (x.1, x.2.1)) =
      some ([.lit (.string [])], []) := by kernel_rfl
  obtain ⟨⟨x1, x2, x3⟩, hx, hx1⟩ := Option.map_eq_some_iff.1 hw
  simp only [Prod.mk.injEq] at hx1
  obtain ⟨rfl, rfl⟩ := hx1
  exact OpenSpec.preRow_of_cond 8 hx (by kernel_rfl) (fun k hk => by cases hk) (by kernel_rfl) (laid_met7 os _)

set_option maxRecDepth 100000 in
theorem reads_lifted (os : Os) (started : os.Started) (H : Type) (enc : TypeId × Value → H) (F : Stop.Interp) :
    ReturnsInHanded {} Tryz.checked os 4 .any ((OpenSpec.ofChange Rows.scriptReadsSpec).preRow enc Tryz.prog Tryz.f4 Rows.scriptReadsRow.domain false Rows.scriptReadsRow.laid) (((OpenSpec.ofChange Rows.scriptReadsSpec).at F).post enc Tryz.prog Tryz.f4 false true false false) := by
  refine returnsInHanded_of_row (C := Tryz.checked) (s := OpenSpec.ofChange Rows.scriptReadsSpec) own started (by kernel_rfl) Tryz.func4
    (witness_row_atRef (enc := enc) (C := Tryz.checked) false (laidWorld7 os) #[.string ⟨#[]⟩] rfl (by kernel_rfl) (by kernel_rfl) (by kernel_rfl) (witness_reads os enc)) ?_
  intro W base args ds gs before hval0 hW _ _ _ hL hsh _
  have hval : ∀ (j : Nat) t v, Tryz.f4.params[j]? = some t → args[j]? = some v → Value.okWide Tryz.prog W .any base t v := hval0
  have hW' := hW
  obtain ⟨p, q, hA0, hV0, rfl, _, _⟩ := hW
  have hA : DataW.TrodAll enc Tryz.prog W 0 (fun _ => true) true Tryz.f4.params.toList args.toList ds p := hA0
  rw [Tryz.params4] at hA hval
  obtain ⟨v0, d0, rfl, rfl, h0⟩ := trodAll_one hA
  obtain ⟨rfl, rfl⟩ := trodVars_none hV0
  obtain ⟨s, rfl, rfl, rfl, ws⟩ := open_string Tryz.underlying9 (hval 0 9 v0 rfl rfl) h0
  clear hA0 hV0 hval0
  have hL' : laidMet Tryz.prog Rows.scriptReadsRow.laid W := hL
  have g : Gl W.heap := gl_of hsh hL'.tail.tail hL'.tail.tail.tail.tail hL'.tail.tail.tail.tail.tail
  have hc := ScriptReads_ok (text := s.data.toList) g (fun _ _ => False) W rfl
  have hs : ba s.data.toList = s := by cases s; simp [ba]
  rw [hs] at hc
  refine hc.mono ?_
  intro e W' he
  cases e with
  | returned v =>
    obtain ⟨hwd, r, rfl, rfl, hfr⟩ := he
    have bel : Below W.heap.size W W' := ⟨hwd.os, hwd.tape, hwd.output, hfr.1, fun k hk => hfr.2 k hk (by simp)⟩
    have e1 : ((OpenSpec.ofChange Rows.scriptReadsSpec).at F).fn H ([.lit (.string s.data.toList)] ++ []) = { results := [.lit (.bool true)], args := [.lit (.string s.data.toList)] } := rfl
    refine ⟨_, rfl, _, _, _, [], [], [], hW', ?_, ?_, ?_, bel.frame _, fun h => by cases h⟩
    · rw [e1]; exact trodAll_mk1 (shut_bool Tryz.underlying4 _)
    · rw [e1]; exact trodAll_mk1 (shut_string Tryz.underlying9 ws)
    · rw [e1]; rfl
  | panicked c => exact he.2.elim
  | outgrown => exact he.elim
theorem reads_said : Rows.ScriptReadsSaid :=
  OpenClaim.holds_of_cond 4 Tryz.f4 rfl rfl rfl rfl rfl rfl rfl ⟨rfl, rfl, rfl, rfl, rfl⟩ rfl rfl rfl rfl rfl (by kernel_rfl) Tryz.func4 (by kernel_rfl)
    (of_decide_eq_true (by kernel_rfl)) (by unfold Func.isWrapper; first | (rw [if_pos (by decide +kernel)]; kernel_rfl) | (rw [if_neg (by decide +kernel)]; exact ⟨rfl, rfl⟩))
    (fun os started H enc _ F => by rw [OpenClaim.pre_eq_preRow]; exact reads_lifted os started H enc F)
theorem reads_plain (f : FuncId) (fn : Func) (hf : Tryz.pinned.checked.prog.funcNamed "tenure/tenurelaw31.ScriptReads" = some f) (hfn : Tryz.pinned.checked.prog.funcs[f]? = some fn) :
    true = Tryz.pinned.checked.prog.looks [] ∧ ∀ (j : Nat) t, fn.params[j]? = some t → Tryz.pinned.checked.prog.wantsStandIn t = false := by
  obtain rfl : f = 4 := Option.some.inj ((show Tryz.prog.funcNamed "tenure/tenurelaw31.ScriptReads" = some 4 by kernel_rfl).symm.trans hf) |>.symm
  obtain rfl : fn = Tryz.f4 := (Option.some.inj (Tryz.func4.symm.trans hfn)).symm
  refine ⟨by kernel_rfl, fun j t ht => ?_⟩
  rw [Tryz.params4] at ht
  obtain rfl : t = 9 := by simpa using Array.mem_of_getElem? ht
  exact (show Tryz.prog.wantsStandIn 9 = false by kernel_rfl)
end Go.Proofs.YtefbonjcpdjhcaaGreatDoor.X
namespace Go.Proofs.YtefbonjcpdjhcaaGreatDoor
open Go
theorem scriptReads_card : Rows.ScriptReadsCardSaid :=
  Claim7.holds_tied_plain_at .later [] _ _ _ _ X.reads_said (fun _ h => by cases h) (by kernel_rfl) (fun _ h => by cases h) scriptReads_row_tie rfl ⟨rfl, rfl⟩ (by kernel_rfl) rfl X.reads_plain (by kernel_rfl)
#print axioms scriptReads_card
end Go.Proofs.YtefbonjcpdjhcaaGreatDoor
