/- The program's checks of a field, of rules, of penalties: walked. The program's checks of rules, games, seasons, penalties and of a book: walked. The program's checks of a season, penalties and of a book: walked. Goals, outcomes and the playing of a game, on both sides: walked. Copies of slices and of a book, on both sides: walked. The program's own copy of a book; the numbers up to one: walked. Rows, outcomes and groups of teams: walked. Groups of teams that exist: walked. One element of an own slice, read and written. The reference's table, one game: walked. The reference's table, one game that counts: walked. A callee that writes one block, handed over as the second argument; no result. The reference's table of some games: walked. The values of the teams by a key. The program's two filters of games: walked. Groups of teams, split by a value: plain. Single fields of own rows. The program's table: walked. Contracts weakened: results seen with less, memory that is not needed; the program's ranker. What a valid book is like. The program's values of the teams by a key: walked. The reference's values of the teams by a key: walked. Own slices of own slices of numbers. Go's slices.Insert of one element that is itself a slice: walked at the model. Go's slices.Insert in the middle. Go's slices.Insert. The program's split of a group: walked. -/
import Derived.Test.YtneiicadhjdbiaaGreatAbP2
import Derived.Shelf.Spec.SlicesInsertGrow
set_option linter.unusedVariables false
set_option linter.unusedSimpArgs false

namespace Go.Proofs.YtneiicadhjdbiaaGreat.Ab
open Go

theorem firstI_ge {f : Nat → Bool} {n : Nat} : decide (0 ≤ firstI f n) = (List.range n).any f := by
  unfold firstI
  cases h : (List.range n).find? f with
  | none =>
    rw [List.find?_eq_none] at h
    have : (List.range n).any f = false := List.any_eq_false.2 fun x hx => by simpa using h x hx
    rw [this]; rfl
  | some i =>
    have : (List.range n).any f = true := List.any_eq_true.2 ⟨i, List.mem_of_find?_eq_some h, List.find?_some h⟩
    rw [this]; simp

theorem containsFuncTeam {mem : List Blk} {g : Nat} {caps : List (Nat × Nat)} {p : Team → Bool} {l : List Team} (hl : l.length < 4611686018427387904) (hf : isFn Tryz.prog g = true)
    (hc : ∀ x ∈ l, AFun Tryz.prog g (dTeam x :: caps.map fun p => DC (.ptr p.1 p.2)) mem fun d m => d = DV (.bool (p x)) ∧ m = mem) :
    AFun Tryz.prog F.slices_ContainsFunc_Team [DV (vTeams l), DC (.fn g caps)] mem fun d m => d = DV (.bool ((List.range l.length).any fun i => (l[i]?).any p)) ∧ m = mem := by
  refine AFun.intro k_slices_ContainsFunc_Team (by simp) ?_
  unfold c_slices_ContainsFunc_Team
  simp only [argE, Nat.reduceAdd]
  simp -implicitDefEqProofs only [go_sem, ↓reduceIte, Nat.reduceEqDiff, Nat.reduceAdd, Nat.reduceLeDiff]
  refine (AFunG.of (indexFuncTeam hl hf hc)).mono ?_
  rintro _ _ ⟨rfl, rfl⟩
  simp -implicitDefEqProofs only [go_sem, ↓reduceIte, Nat.reduceEqDiff, Nat.reduceAdd, Nat.reduceLeDiff]
  exact finK_refl (Nat.le_refl _) ⟨by rw [firstI_ge], rfl⟩

theorem containsFuncInt {mem : List Blk} {g : Nat} {caps : List (Nat × Nat)} {p : Int → Bool} {l : List Int} (hl : l.length < 4611686018427387904) (hf : isFn Tryz.prog g = true)
    (hc : ∀ x ∈ l, AFun Tryz.prog g (DV (vInt x) :: caps.map fun p => DC (.ptr p.1 p.2)) mem fun d m => d = DV (.bool (p x)) ∧ m = mem) :
    AFun Tryz.prog F.slices_ContainsFunc_int [DV (vInts l), DC (.fn g caps)] mem fun d m => d = DV (.bool ((List.range l.length).any fun i => (l[i]?).any p)) ∧ m = mem := by
  refine AFun.intro k_slices_ContainsFunc_int (by simp) ?_
  unfold c_slices_ContainsFunc_int
  simp only [argE, Nat.reduceAdd]
  simp -implicitDefEqProofs only [go_sem, ↓reduceIte, Nat.reduceEqDiff, Nat.reduceAdd, Nat.reduceLeDiff]
  refine (AFunG.of (indexFuncInt hl hf hc)).mono ?_
  rintro _ _ ⟨rfl, rfl⟩
  simp -implicitDefEqProofs only [go_sem, ↓reduceIte, Nat.reduceEqDiff, Nat.reduceAdd, Nat.reduceLeDiff]
  exact finK_refl (Nat.le_refl _) ⟨by rw [firstI_ge], rfl⟩

theorem finK_drop {K : D → List Blk → Prop} {mem ex : List Blk} {d : D} (hw : WfM mem) (hlt : d.lt mem.length) (k : K d mem) : finK mem.length (mem ++ ex) K d := ⟨d, mem, WkD.drop hw (leD_id d) hlt, k⟩

theorem fieldOkC1 (t x : Team) : AFun Tryz.prog F.impl_FieldOk_c1 [dTeam x, DC (.ptr 0 0)] [.cells ((eTeam t).map .v)] fun d m => d = DV (.bool (clash x t)) ∧ m = [.cells ((eTeam t).map .v)] := by
  refine AFun.intro k_impl_FieldOk_c1 (by simp) ?_
  unfold c_impl_FieldOk_c1
  simp only [argE, Nat.reduceAdd]
  simp only [dTeam, eTeam]
  have hw : WfM [Blk.cells ((eTeam t).map .v)] := WfM.data fun b hb => by simp only [List.mem_cons, List.not_mem_nil, or_false] at hb; subst hb; exact ⟨eTeam t, rfl⟩
  simp -implicitDefEqProofs only [go_sem, ↓reduceIte, Nat.reduceEqDiff, Nat.reduceAdd, Nat.reduceLeDiff]
  cases h1 : decide (x.name = t.name)
  · simp -implicitDefEqProofs only [go_sem, ↓reduceIte, Nat.reduceEqDiff, Nat.reduceAdd, Nat.reduceLeDiff, h1]
    exact finK_drop (mem := [.cells ((eTeam t).map .v)]) hw trivial ⟨by simp only [clash, h1]; rfl, rfl⟩
  · simp -implicitDefEqProofs only [go_sem, ↓reduceIte, Nat.reduceEqDiff, Nat.reduceAdd, Nat.reduceLeDiff, h1]
    exact finK_drop (mem := [.cells ((eTeam t).map .v)]) hw trivial ⟨by simp only [clash, h1]; rfl, rfl⟩

theorem isFn_fieldOkC1 : isFn Tryz.prog F.impl_FieldOk_c1 = true := by kernel_rfl

theorem implFieldOk (l : List Team) (hl : l.length < 4611686018427387904) (hn : ∀ t ∈ l, t.name.length < 4611686018427387904) : AFunD Tryz.prog F.impl_FieldOk [DV (vTeams l)] (DV (.bool (fieldOk l))) := by
  refine AFunD.intro k_impl_FieldOk (by simp) ?pure ?_
  case pure => first | exact D.pure_v _ | exact D.pure_vs _
  unfold c_impl_FieldOk
  simp only [argE, Nat.reduceAdd]
  simp only [vTeams]
  simp -implicitDefEqProofs only [go_sem, ↓reduceIte, Nat.reduceEqDiff, Nat.reduceAdd, Nat.reduceLeDiff]
  refine loop_st (S := Nat) (fun i => [(0, DV (vTeams l)), (5, DV (vTeams l)), (6, DV (vInt l.length)), (7, DV (vInt i))]) (fun _ => []) (fun i => l.length - i) (fun i => i ≤ l.length ∧ (List.range i).all (teamAt l) = true) 0 (Nat.zero_le _)
    ⟨rfl, rfl, rfl, rfl, trivial⟩ rfl ⟨Nat.zero_le _, rfl⟩ ?_
  rintro i ⟨hi, hp⟩
  simp -implicitDefEqProofs only [go_sem, ↓reduceIte, Nat.reduceEqDiff, Nat.reduceAdd, Nat.reduceLeDiff, vTeams, vInt]
  refine condA_dec (fun h => ?_) (fun h => ?_)
  · have hlt : i < l.length := by omega
    have bad : teamAt l i = false → fieldOk l = false := fun h => by rw [fieldOk, all_range_false hlt h]; simp
    simp -implicitDefEqProofs only [go_sem, ↓reduceIte, Nat.reduceEqDiff, Nat.reduceAdd, Nat.reduceLeDiff, List.getElem?_eq_getElem hlt]
    simp only [eTeam]
    simp -implicitDefEqProofs only [go_sem, ↓reduceIte, Nat.reduceEqDiff, Nat.reduceAdd, Nat.reduceLeDiff]
    refine (implTeamOk l[i] (hn _ (List.getElem_mem hlt))).callp (.vs _ .nil) ?_
    cases h2 : teamOk l[i]
    · simp -implicitDefEqProofs only [go_sem, ↓reduceIte, Nat.reduceEqDiff, Nat.reduceAdd, Nat.reduceLeDiff]
      exact finK_v ⟨by rw [bad (by simp [teamAt, hlt, h2])], rfl⟩
    simp -implicitDefEqProofs only [go_sem, ↓reduceIte, Nat.reduceEqDiff, Nat.reduceAdd, Nat.reduceLeDiff]
    refine slsA_pre (f := eTeam) (l := l) i (by omega) rfl ?_
    simp -implicitDefEqProofs only [go_sem, ↓reduceIte, Nat.reduceEqDiff, Nat.reduceAdd, Nat.reduceLeDiff]
    refine handKeep [0] (containsFuncTeam (l := l.take i) (p := fun x => clash x l[i]) (by simp; omega) isFn_fieldOkC1 (caps := [(0, 0)]) (mem := [.cells ((eTeam l[i]).map .v)]) fun x _ => fieldOkC1 l[i] x) (by simp) rfl (fun j b' hj => ?_)
      ⟨VwM.ren (.inr rfl) trivial, VwM.ren (d0 := DC (.fn F.impl_FieldOk_c1 [(0, 0)])) (.inr rfl) (fun p hp => by simp at hp; subst hp; exact Nat.zero_lt_one), trivial⟩ ?_
    · cases j with
      | zero => cases hj; exact ⟨⟨eTeam l[i], rfl⟩, rfl⟩
      | succ j => simp at hj
    have hany : ((List.range (l.take i).length).any fun j => ((l.take i)[j]?).any fun x => clash x l[i]) = ((List.range i).any fun j => (l[j]?).any fun o => clash o l[i]) := by
      rw [List.length_take, Nat.min_eq_left hi]
      have : ∀ (f g : Nat → Bool) (n : Nat), (∀ j, j < n → f j = g j) → (List.range n).any f = (List.range n).any g := fun f g n h => by
        rw [Bool.eq_iff_iff, List.any_eq_true, List.any_eq_true]
        exact ⟨fun ⟨x, hx, hf⟩ => ⟨x, hx, by rw [← h x (List.mem_range.1 hx)]; exact hf⟩, fun ⟨x, hx, hf⟩ => ⟨x, hx, by rw [h x (List.mem_range.1 hx)]; exact hf⟩⟩
      exact this _ _ _ fun j hj => by rw [List.getElem?_take, if_pos hj]
    rw [hany]
    cases h3 : ((List.range i).any fun j => (l[j]?).any fun o => clash o l[i])
    · simp -implicitDefEqProofs only [go_sem, ↓reduceIte, Nat.reduceEqDiff, Nat.reduceAdd, Nat.reduceLeDiff, w64s (show i < 4611686018427387904 by omega)]
      exact next_drop (i + 1) _ (by omega) ⟨by omega, by rw [all_range_succ, hp]; simp only [teamAt, List.getElem?_eq_getElem hlt, Option.all_some, h2, h3]; rfl⟩ WfM.nil (Nat.zero_le _) ⟨rfl, rfl, rfl, rfl, trivial⟩ ⟨trivial, trivial, trivial, trivial, trivial⟩ rfl
    · simp -implicitDefEqProofs only [go_sem, ↓reduceIte, Nat.reduceEqDiff, Nat.reduceAdd, Nat.reduceLeDiff]
      exact finK_v ⟨by rw [bad (by simp only [teamAt, List.getElem?_eq_getElem hlt, Option.all_some, h2, h3]; rfl)], rfl⟩
  · simp -implicitDefEqProofs only [go_sem, ↓reduceIte, Nat.reduceEqDiff, Nat.reduceAdd, Nat.reduceLeDiff]
    have : i = l.length := by omega
    subst this
    refine (within l.length 2 8).callp (.v _ (.v _ (.v _ .nil))) ?_
    simp -implicitDefEqProofs only [go_sem, ↓reduceIte, Nat.reduceEqDiff, Nat.reduceAdd, Nat.reduceLeDiff]
    exact finK_v ⟨by rw [fieldOk, hp, Bool.and_true], rfl⟩

end Go.Proofs.YtneiicadhjdbiaaGreat.Ab

namespace Go.Proofs.YtneiicadhjdbiaaGreat.Ab
open Go

theorem any_congr {f g : Nat → Bool} {n : Nat} (h : ∀ j, j < n → f j = g j) : (List.range n).any f = (List.range n).any g := by
  rw [Bool.eq_iff_iff, List.any_eq_true, List.any_eq_true]
  exact ⟨fun ⟨x, hx, hf⟩ => ⟨x, hx, by rw [← h x (List.mem_range.1 hx)]; exact hf⟩, fun ⟨x, hx, hf⟩ => ⟨x, hx, by rw [h x (List.mem_range.1 hx)]; exact hf⟩⟩
theorem implIsKey (k : Int) : AFunD Tryz.prog F.impl_isKey [DV (vInt k)] (DV (.bool (inB k 1 8))) := by
  refine AFunD.intro k_impl_isKey (by simp) ?pure ?_
  case pure => first | exact D.pure_v _ | exact D.pure_vs _
  unfold c_impl_isKey
  simp only [argE, Nat.reduceAdd]
  simp -implicitDefEqProofs only [go_sem, ↓reduceIte, Nat.reduceEqDiff, Nat.reduceAdd, Nat.reduceLeDiff]
  refine (within k 1 8).callp (.v _ (.v _ (.v _ .nil))) ?_
  simp -implicitDefEqProofs only [go_sem, ↓reduceIte, Nat.reduceEqDiff, Nat.reduceAdd, Nat.reduceLeDiff]
  exact finK_v ⟨rfl, rfl⟩

def placeI (l : List Int) (x : Int) : Int := firstI (fun i => l[i]? == some x) l.length

theorem indexInt (l : List Int) (x : Int) (hl : l.length < 4611686018427387904) : AFunD Tryz.prog F.slices_Index_int [DV (vInts l), DV (vInt x)] (DV (vInt (placeI l x))) := by
  refine AFunD.intro k_slices_Index_int (by simp) ?pure ?_
  case pure => first | exact D.pure_v _ | exact D.pure_vs _
  unfold c_slices_Index_int
  simp only [argE, Nat.reduceAdd]
  simp only [vInts]
  simp -implicitDefEqProofs only [go_sem, ↓reduceIte, Nat.reduceEqDiff, Nat.reduceAdd, Nat.reduceLeDiff]
  refine loop_st (S := Nat) (fun i => [(0, DV (vInts l)), (1, DV (vInt x)), (7, DV (vInt l.length)), (8, DV (vInt i))]) (fun _ => []) (fun i => l.length - i) (fun i => i ≤ l.length ∧ ((List.range i).any fun i => l[i]? == some x) = false) 0 (Nat.zero_le _)
    ⟨rfl, rfl, rfl, rfl, trivial⟩ rfl ⟨Nat.zero_le _, rfl⟩ ?_
  rintro i ⟨hi, hp⟩
  simp -implicitDefEqProofs only [go_sem, ↓reduceIte, Nat.reduceEqDiff, Nat.reduceAdd, Nat.reduceLeDiff, vInts, vInt]
  refine condA_dec (fun h => ?_) (fun h => ?_)
  · have hlt : i < l.length := by omega
    simp -implicitDefEqProofs only [go_sem, ↓reduceIte, Nat.reduceEqDiff, Nat.reduceAdd, Nat.reduceLeDiff, List.getElem?_eq_getElem hlt]
    refine condA_dec (fun h => ?_) (fun h => ?_)
    · simp -implicitDefEqProofs only [go_sem, ↓reduceIte, Nat.reduceEqDiff, Nat.reduceAdd, Nat.reduceLeDiff]
      exact finK_v ⟨by rw [placeI, firstI_some hlt (by simp [hlt, h]) hp], rfl⟩
    · simp -implicitDefEqProofs only [go_sem, ↓reduceIte, Nat.reduceEqDiff, Nat.reduceAdd, Nat.reduceLeDiff, w64s (show i < 4611686018427387904 by omega)]
      exact next_of (i + 1) (by omega) ⟨by omega, by rw [any_range_succ, hp]; simp [hlt]; omega⟩ (Nat.zero_le _) ⟨rfl, rfl, rfl, rfl, trivial⟩ rfl
  · simp -implicitDefEqProofs only [go_sem, ↓reduceIte, Nat.reduceEqDiff, Nat.reduceAdd, Nat.reduceLeDiff]
    have : i = l.length := by omega
    subst this
    exact finK_v ⟨by rw [placeI, firstI_none hp], rfl⟩

theorem containsInt (l : List Int) (x : Int) (hl : l.length < 4611686018427387904) : AFunD Tryz.prog F.slices_Contains_int [DV (vInts l), DV (vInt x)] (DV (.bool (has l x))) := by
  refine AFunD.intro k_slices_Contains_int (by simp) ?pure ?_
  case pure => first | exact D.pure_v _ | exact D.pure_vs _
  unfold c_slices_Contains_int
  simp only [argE, Nat.reduceAdd]
  simp -implicitDefEqProofs only [go_sem, ↓reduceIte, Nat.reduceEqDiff, Nat.reduceAdd, Nat.reduceLeDiff]
  refine (indexInt l x hl).callp (.v _ (.v _ .nil)) ?_
  simp -implicitDefEqProofs only [go_sem, ↓reduceIte, Nat.reduceEqDiff, Nat.reduceAdd, Nat.reduceLeDiff]
  exact finK_v ⟨by rw [placeI, firstI_ge, has], rfl⟩

theorem implRulesOk (u : Rules) (hl : u.ladder.length < 4611686018427387904) : AFunD Tryz.prog F.impl_RulesOk [dRules u] (DV (.bool (rulesOk u))) := by
  refine AFunD.intro k_impl_RulesOk (by simp) ?pure ?_
  case pure => first | exact D.pure_v _ | exact D.pure_vs _
  unfold c_impl_RulesOk
  simp only [argE, Nat.reduceAdd]
  simp only [dRules, eRules]
  simp -implicitDefEqProofs only [go_sem, ↓reduceIte, Nat.reduceEqDiff, Nat.reduceAdd, Nat.reduceLeDiff, vInts]
  let l := u.ladder
  have hl : l.length < 4611686018427387904 := hl
  refine loop_st (S := Nat) (fun i => [(1, DC (.ptr 0 0)), (6, DV (vInts l)), (7, DV (vInt l.length)), (8, DV (vInt i))]) (fun _ => [.cells ((eRules u).map .v)]) (fun i => l.length - i) (fun i => i ≤ l.length ∧ (List.range i).all (ladderAt l) = true) 0 (Nat.zero_le _)
    ⟨rfl, rfl, rfl, rfl, trivial⟩ rfl ⟨Nat.zero_le _, rfl⟩ ?_
  rintro i ⟨hi, hp⟩
  simp only [eRules]
  simp -implicitDefEqProofs only [go_sem, ↓reduceIte, Nat.reduceEqDiff, Nat.reduceAdd, Nat.reduceLeDiff, vInts, vInt]
  refine condA_dec (fun h => ?_) (fun h => ?_)
  · have hlt : i < l.length := by omega
    have bad : ladderAt l i = false → rulesOk u = false := fun h => by rw [rulesOk, all_range_false hlt h]; simp
    simp -implicitDefEqProofs only [go_sem, ↓reduceIte, Nat.reduceEqDiff, Nat.reduceAdd, Nat.reduceLeDiff, List.getElem?_eq_getElem hlt]
    refine (implIsKey l[i]).callp (.v _ .nil) ?_
    cases h5 : inB l[i] 1 8
    · simp -implicitDefEqProofs only [go_sem, ↓reduceIte, Nat.reduceEqDiff, Nat.reduceAdd, Nat.reduceLeDiff]
      exact finK_v ⟨by rw [bad (by rw [ladderAt, List.getElem?_eq_getElem hlt, Option.all_some, h5]; rfl)], rfl⟩
    simp -implicitDefEqProofs only [go_sem, ↓reduceIte, Nat.reduceEqDiff, Nat.reduceAdd, Nat.reduceLeDiff, vInts]
    refine slsA_ints (l := l) i (by omega) rfl ?_
    simp -implicitDefEqProofs only [go_sem, ↓reduceIte, Nat.reduceEqDiff, Nat.reduceAdd, Nat.reduceLeDiff]
    refine (containsInt (l.take i) l[i] (by simp; omega)).callp (.v _ (.v _ .nil)) ?_
    cases h6 : has (l.take i) l[i]
    · simp -implicitDefEqProofs only [go_sem, ↓reduceIte, Nat.reduceEqDiff, Nat.reduceAdd, Nat.reduceLeDiff, w64s (show i < 4611686018427387904 by omega)]
      exact next_of (i + 1) (by omega) ⟨by omega, by rw [all_range_succ, hp, ladderAt, List.getElem?_eq_getElem hlt, Option.all_some, h5, h6]; rfl⟩ (Nat.zero_le _) ⟨rfl, rfl, rfl, rfl, trivial⟩ rfl
    · simp -implicitDefEqProofs only [go_sem, ↓reduceIte, Nat.reduceEqDiff, Nat.reduceAdd, Nat.reduceLeDiff]
      exact finK_v ⟨by rw [bad (by rw [ladderAt, List.getElem?_eq_getElem hlt, Option.all_some, h5, h6]; rfl)], rfl⟩
  · simp -implicitDefEqProofs only [go_sem, ↓reduceIte, Nat.reduceEqDiff, Nat.reduceAdd, Nat.reduceLeDiff]
    have : i = l.length := by omega
    subst this
    have hr : rulesOk u = (decide (0 ≤ u.loss) && decide (u.loss ≤ u.draw) && decide (u.draw ≤ u.win) && decide (u.win ≤ 10) && inB u.ladder.length 1 8) := by
      rw [rulesOk, hp, Bool.eq_iff_iff]
      simp only [Bool.and_eq_true, inB_iff, decide_eq_true_eq, and_true]
      constructor
      · rintro ⟨⟨⟨⟨a1, a2⟩, a3, a4⟩, a5, a6⟩, a7, a8⟩; exact ⟨⟨⟨⟨a5, a6⟩, a4⟩, a2⟩, a7, a8⟩
      · rintro ⟨⟨⟨⟨a5, a6⟩, a4⟩, a2⟩, a7, a8⟩; exact ⟨⟨⟨⟨by omega, a2⟩, by omega, a4⟩, a5, a6⟩, a7, a8⟩
    cases h1 : decide (0 ≤ u.loss)
    · simp -implicitDefEqProofs only [go_sem, ↓reduceIte, Nat.reduceEqDiff, Nat.reduceAdd, Nat.reduceLeDiff, h1]
      exact finK_v ⟨by rw [hr, h1]; rfl, rfl⟩
    cases h2 : decide (u.loss ≤ u.draw)
    · simp -implicitDefEqProofs only [go_sem, ↓reduceIte, Nat.reduceEqDiff, Nat.reduceAdd, Nat.reduceLeDiff, h1, h2]
      exact finK_v ⟨by rw [hr, h1, h2]; rfl, rfl⟩
    cases h3 : decide (u.draw ≤ u.win)
    · simp -implicitDefEqProofs only [go_sem, ↓reduceIte, Nat.reduceEqDiff, Nat.reduceAdd, Nat.reduceLeDiff, h1, h2, h3]
      exact finK_v ⟨by rw [hr, h1, h2, h3]; rfl, rfl⟩
    cases h4 : decide (u.win ≤ 10)
    · simp -implicitDefEqProofs only [go_sem, ↓reduceIte, Nat.reduceEqDiff, Nat.reduceAdd, Nat.reduceLeDiff, h1, h2, h3, h4]
      exact finK_v ⟨by rw [hr, h1, h2, h3, h4]; rfl, rfl⟩
    simp -implicitDefEqProofs only [go_sem, ↓reduceIte, Nat.reduceEqDiff, Nat.reduceAdd, Nat.reduceLeDiff, h1, h2, h3, h4, vInts]
    refine (within u.ladder.length 1 8).callp (.v _ (.v _ (.v _ .nil))) ?_
    simp -implicitDefEqProofs only [go_sem, ↓reduceIte, Nat.reduceEqDiff, Nat.reduceAdd, Nat.reduceLeDiff]
    exact finK_v ⟨by rw [hr, h1, h2, h3, h4]; rfl, rfl⟩


theorem implGameOk (n : Int) (g : Game) : AFunD Tryz.prog F.impl_GameOk [DV (vInt n), dGame g] (DV (.bool (gameOk n g))) := by
  have key : gameOk n g = (inB n 2 8 && decide (g.home ≠ g.away) && inB g.home 0 (n - 1) && inB g.away 0 (n - 1) && inB g.state 0 4 && inB g.hg 0 (if g.state = 1 then 99 else 0) && inB g.ag 0 (if g.state = 1 then 99 else 0)) := by
    rw [gameOk, Bool.eq_iff_iff]
    by_cases h : g.state = 1
    · simp only [if_pos h, Bool.and_eq_true, inB_iff, decide_eq_true_eq, Bool.not_eq_true', decide_eq_false_iff_not]
      constructor
      · rintro ⟨⟨⟨⟨⟨a1, a2⟩, a3⟩, a4⟩, a5⟩, a6, a7⟩; exact ⟨⟨⟨⟨⟨⟨a1, a4⟩, a2⟩, a3⟩, a5⟩, a6⟩, a7⟩
      · rintro ⟨⟨⟨⟨⟨⟨a1, a4⟩, a2⟩, a3⟩, a5⟩, a6⟩, a7⟩; exact ⟨⟨⟨⟨⟨a1, a2⟩, a3⟩, a4⟩, a5⟩, a6, a7⟩
    · simp only [if_neg h, Bool.and_eq_true, inB_iff, decide_eq_true_eq, Bool.not_eq_true', decide_eq_false_iff_not]
      constructor
      · rintro ⟨⟨⟨⟨⟨a1, a2⟩, a3⟩, a4⟩, a5⟩, a6, a7⟩; exact ⟨⟨⟨⟨⟨⟨a1, a4⟩, a2⟩, a3⟩, a5⟩, by omega⟩, by omega⟩
      · rintro ⟨⟨⟨⟨⟨⟨a1, a4⟩, a2⟩, a3⟩, a5⟩, a6⟩, a7⟩; exact ⟨⟨⟨⟨⟨a1, a2⟩, a3⟩, a4⟩, a5⟩, by omega, by omega⟩
  refine AFunD.intro k_impl_GameOk (by simp) ?pure ?_
  case pure => first | exact D.pure_v _ | exact D.pure_vs _
  unfold c_impl_GameOk
  simp only [argE, Nat.reduceAdd]
  simp only [dGame, eGame]
  simp -implicitDefEqProofs only [go_sem, ↓reduceIte, Nat.reduceEqDiff, Nat.reduceAdd, Nat.reduceLeDiff]
  refine condA_dec (fun h => ?_) (fun h => ?_)
  all_goals
    simp -implicitDefEqProofs only [go_sem, ↓reduceIte, Nat.reduceEqDiff, Nat.reduceAdd, Nat.reduceLeDiff]
    refine (within n 2 8).callp (.v _ (.v _ (.v _ .nil))) ?_
    cases h1 : inB n 2 8
  all_goals try (simp -implicitDefEqProofs only [go_sem, ↓reduceIte, Nat.reduceEqDiff, Nat.reduceAdd, Nat.reduceLeDiff]; exact finK_v ⟨by rw [key, h1]; rfl, rfl⟩)
  all_goals
    have hn := inB_iff.1 h1
    cases h4 : decide (g.home ≠ g.away)
  all_goals try (simp only [ne_eq] at h4; simp -implicitDefEqProofs only [go_sem, ↓reduceIte, Nat.reduceEqDiff, Nat.reduceAdd, Nat.reduceLeDiff, h4]; exact finK_v ⟨by rw [key, h1]; simp only [ne_eq, h4]; rfl, rfl⟩)
  all_goals
    simp only [ne_eq] at h4
    simp -implicitDefEqProofs only [go_sem, ↓reduceIte, Nat.reduceEqDiff, Nat.reduceAdd, Nat.reduceLeDiff, h4, w64 (x := n - 1) (by omega) (by omega)]
    refine (within g.home 0 (n - 1)).callp (.v _ (.v _ (.v _ .nil))) ?_
    cases h2 : inB g.home 0 (n - 1)
  all_goals try (simp -implicitDefEqProofs only [go_sem, ↓reduceIte, Nat.reduceEqDiff, Nat.reduceAdd, Nat.reduceLeDiff]; exact finK_v ⟨by rw [key, h1, h2]; simp, rfl⟩)
  all_goals
    simp -implicitDefEqProofs only [go_sem, ↓reduceIte, Nat.reduceEqDiff, Nat.reduceAdd, Nat.reduceLeDiff, w64 (x := n - 1) (by omega) (by omega)]
    refine (within g.away 0 (n - 1)).callp (.v _ (.v _ (.v _ .nil))) ?_
    cases h3 : inB g.away 0 (n - 1)
  all_goals try (simp -implicitDefEqProofs only [go_sem, ↓reduceIte, Nat.reduceEqDiff, Nat.reduceAdd, Nat.reduceLeDiff]; exact finK_v ⟨by rw [key, h1, h2, h3]; simp, rfl⟩)
  all_goals
    simp -implicitDefEqProofs only [go_sem, ↓reduceIte, Nat.reduceEqDiff, Nat.reduceAdd, Nat.reduceLeDiff]
    refine (within g.state 0 4).callp (.v _ (.v _ (.v _ .nil))) ?_
    cases h5 : inB g.state 0 4
  all_goals try (simp -implicitDefEqProofs only [go_sem, ↓reduceIte, Nat.reduceEqDiff, Nat.reduceAdd, Nat.reduceLeDiff]; exact finK_v ⟨by rw [key, h1, h2, h3, h5]; simp, rfl⟩)
  · simp -implicitDefEqProofs only [go_sem, ↓reduceIte, Nat.reduceEqDiff, Nat.reduceAdd, Nat.reduceLeDiff]
    refine (within g.hg 0 99).callp (.v _ (.v _ (.v _ .nil))) ?_
    rw [if_pos h] at key
    cases h6 : inB g.hg 0 99
    · simp -implicitDefEqProofs only [go_sem, ↓reduceIte, Nat.reduceEqDiff, Nat.reduceAdd, Nat.reduceLeDiff]
      exact finK_v ⟨by rw [key, h6]; simp, rfl⟩
    simp -implicitDefEqProofs only [go_sem, ↓reduceIte, Nat.reduceEqDiff, Nat.reduceAdd, Nat.reduceLeDiff]
    refine (within g.ag 0 99).callp (.v _ (.v _ (.v _ .nil))) ?_
    simp -implicitDefEqProofs only [go_sem, ↓reduceIte, Nat.reduceEqDiff, Nat.reduceAdd, Nat.reduceLeDiff]
    exact finK_v ⟨by rw [key, h1, h2, h3, h5, h6]; simp only [ne_eq, h4]; rfl, rfl⟩
  · simp -implicitDefEqProofs only [go_sem, ↓reduceIte, Nat.reduceEqDiff, Nat.reduceAdd, Nat.reduceLeDiff]
    refine (within g.hg 0 0).callp (.v _ (.v _ (.v _ .nil))) ?_
    rw [if_neg h] at key
    cases h6 : inB g.hg 0 0
    · simp -implicitDefEqProofs only [go_sem, ↓reduceIte, Nat.reduceEqDiff, Nat.reduceAdd, Nat.reduceLeDiff]
      exact finK_v ⟨by rw [key, h6]; simp, rfl⟩
    simp -implicitDefEqProofs only [go_sem, ↓reduceIte, Nat.reduceEqDiff, Nat.reduceAdd, Nat.reduceLeDiff]
    refine (within g.ag 0 0).callp (.v _ (.v _ (.v _ .nil))) ?_
    simp -implicitDefEqProofs only [go_sem, ↓reduceIte, Nat.reduceEqDiff, Nat.reduceAdd, Nat.reduceLeDiff]
    exact finK_v ⟨by rw [key, h1, h2, h3, h5, h6]; simp only [ne_eq, h4]; rfl, rfl⟩

end Go.Proofs.YtneiicadhjdbiaaGreat.Ab

namespace Go.Proofs.YtneiicadhjdbiaaGreat.Ab
open Go

def mem2 (a b : Int) : List Blk := [.cells [.v (.int .i64 a)], .cells [.v (.int .i64 b)]]
theorem mem2_wf (a b : Int) : WfM (mem2 a b) := WfM.data fun x hx => by
  simp only [mem2, List.mem_cons, List.not_mem_nil, or_false] at hx
  rcases hx with rfl | rfl
  · exact ⟨[.int .i64 a], rfl⟩
  · exact ⟨[.int .i64 b], rfl⟩

theorem gameOfC1 (a b : Int) (g : Game) : AFun Tryz.prog F.impl_GameOf_c1 [dGame g, DC (.ptr 0 0), DC (.ptr 1 0)] (mem2 a b) fun d m => d = DV (.bool (decide (g.home = a) && decide (g.away = b))) ∧ m = mem2 a b := by
  refine AFun.intro k_impl_GameOf_c1 (by simp) ?_
  unfold c_impl_GameOf_c1
  simp only [argE, Nat.reduceAdd]
  simp only [dGame, eGame, mem2]
  simp -implicitDefEqProofs only [go_sem, ↓reduceIte, Nat.reduceEqDiff, Nat.reduceAdd, Nat.reduceLeDiff]
  cases h1 : decide (g.home = a)
  · simp -implicitDefEqProofs only [go_sem, ↓reduceIte, Nat.reduceEqDiff, Nat.reduceAdd, Nat.reduceLeDiff, h1]
    exact finK_drop (mem := mem2 a b) (mem2_wf a b) trivial ⟨rfl, rfl⟩
  · simp -implicitDefEqProofs only [go_sem, ↓reduceIte, Nat.reduceEqDiff, Nat.reduceAdd, Nat.reduceLeDiff, h1]
    exact finK_drop (mem := mem2 a b) (mem2_wf a b) trivial ⟨rfl, rfl⟩

theorem isFn_gameOfC1 : isFn Tryz.prog F.impl_GameOf_c1 = true := by kernel_rfl

theorem implGameOf (l : List Game) (a b : Int) (hl : l.length < 4611686018427387904) : AFunD Tryz.prog F.impl_GameOf [DV (vGames l), DV (vInt a), DV (vInt b)] (DV (vInt (gameOf l a b))) := by
  refine AFunD.intro k_impl_GameOf (by simp) ?pure ?_
  case pure => first | exact D.pure_v _ | exact D.pure_vs _
  unfold c_impl_GameOf
  simp only [argE, Nat.reduceAdd]
  simp -implicitDefEqProofs only [go_sem, ↓reduceIte, Nat.reduceEqDiff, Nat.reduceAdd, Nat.reduceLeDiff]
  refine (AFunG.of (indexFuncGame (l := l) (p := fun g => decide (g.home = a) && decide (g.away = b)) hl isFn_gameOfC1 (caps := [(0, 0), (1, 0)]) (mem := mem2 a b) fun g _ => gameOfC1 a b g)).mono ?_
  rintro _ _ ⟨rfl, rfl⟩
  simp -implicitDefEqProofs only [go_sem, ↓reduceIte, Nat.reduceEqDiff, Nat.reduceAdd, Nat.reduceLeDiff]
  exact finK_fz (FzD.v _) ⟨rfl, rfl⟩

theorem gameOf_own {l : List Game} {i : Nat} (hi : i < l.length) : decide (gameOf l l[i].home l[i].away = (i : Int)) = !((List.range i).any (gameIs l l[i].home l[i].away)) := by
  have hown : gameIs l l[i].home l[i].away i = true := by simp [gameIs, hi]
  cases h : (List.range i).any (gameIs l l[i].home l[i].away)
  · rw [gameOf, firstI_some hi hown h]; simp
  · obtain ⟨j, hj, hf⟩ := List.any_eq_true.1 h
    have hji := List.mem_range.1 hj
    simp only [Bool.not_true, decide_eq_false_iff_not]
    intro he
    unfold gameOf firstI at he
    split at he
    · rename_i k hk
      have hki : k = i := by omega
      subst hki
      rw [List.find?_range_eq_some] at hk
      have := hk.2.2 j hji
      rw [hf] at this; cases this
    · omega

theorem gameOf_take {l : List Game} {i : Nat} (hi : i ≤ l.length) (a b : Int) : decide (0 ≤ gameOf (l.take i) a b) = (List.range i).any (gameIs l a b) := by
  rw [gameOf, firstI_ge, List.length_take, Nat.min_eq_left hi]
  exact any_congr fun j hj => by rw [gameIs, gameIs, List.getElem?_take, if_pos hj]

theorem implSeasonOk (n : Int) (l : List Game) (hl : l.length < 4611686018427387904) : AFunD Tryz.prog F.impl_SeasonOk [DV (vInt n), DV (vGames l)] (DV (.bool (seasonOk n l))) := by
  refine AFunD.intro k_impl_SeasonOk (by simp) ?pure ?_
  case pure => first | exact D.pure_v _ | exact D.pure_vs _
  unfold c_impl_SeasonOk
  simp only [argE, Nat.reduceAdd]
  simp only [vGames]
  simp -implicitDefEqProofs only [go_sem, ↓reduceIte, Nat.reduceEqDiff, Nat.reduceAdd, Nat.reduceLeDiff]
  refine loop_st (S := Nat) (fun i => [(0, DV (vInt n)), (1, DV (vGames l)), (7, DV (vGames l)), (8, DV (vInt l.length)), (9, DV (vInt i))]) (fun _ => []) (fun i => l.length - i) (fun i => i ≤ l.length ∧ (List.range i).all (seasonAt n l) = true) 0 (Nat.zero_le _)
    ⟨rfl, rfl, rfl, rfl, rfl, trivial⟩ rfl ⟨Nat.zero_le _, rfl⟩ ?_
  rintro i ⟨hi, hp⟩
  simp -implicitDefEqProofs only [go_sem, ↓reduceIte, Nat.reduceEqDiff, Nat.reduceAdd, Nat.reduceLeDiff, vGames, vInt]
  refine condA_dec (fun h => ?_) (fun h => ?_)
  · have hlt : i < l.length := by omega
    have bad : seasonAt n l i = false → seasonOk n l = false := fun h => by rw [seasonOk, all_range_false hlt h]; simp
    simp -implicitDefEqProofs only [go_sem, ↓reduceIte, Nat.reduceEqDiff, Nat.reduceAdd, Nat.reduceLeDiff, List.getElem?_eq_getElem hlt]
    simp only [eGame]
    simp -implicitDefEqProofs only [go_sem, ↓reduceIte, Nat.reduceEqDiff, Nat.reduceAdd, Nat.reduceLeDiff]
    refine (implGameOk n l[i]).callp (.v _ (.vs (eGame l[i]) .nil)) ?_
    cases h1 : gameOk n l[i]
    · simp -implicitDefEqProofs only [go_sem, ↓reduceIte, Nat.reduceEqDiff, Nat.reduceAdd, Nat.reduceLeDiff]
      exact finK_v ⟨by rw [bad (by rw [seasonAt, List.getElem?_eq_getElem hlt, Option.all_some, h1]; rfl)], rfl⟩
    simp -implicitDefEqProofs only [go_sem, ↓reduceIte, Nat.reduceEqDiff, Nat.reduceAdd, Nat.reduceLeDiff]
    refine slsA_pre (f := eGame) (l := l) i (by omega) rfl ?_
    simp -implicitDefEqProofs only [go_sem, ↓reduceIte, Nat.reduceEqDiff, Nat.reduceAdd, Nat.reduceLeDiff]
    refine (implGameOf (l.take i) l[i].home l[i].away (by simp; omega)).callp (.v _ (.v _ (.v _ .nil))) ?_
    simp -implicitDefEqProofs only [go_sem, ↓reduceIte, Nat.reduceEqDiff, Nat.reduceAdd, Nat.reduceLeDiff, gameOf_take hi]
    have hs : seasonAt n l i = !((List.range i).any (gameIs l l[i].home l[i].away)) := by rw [seasonAt, List.getElem?_eq_getElem hlt, Option.all_some, h1, gameOf_own hlt]; rfl
    cases h2 : (List.range i).any (gameIs l l[i].home l[i].away)
    · simp -implicitDefEqProofs only [go_sem, ↓reduceIte, Nat.reduceEqDiff, Nat.reduceAdd, Nat.reduceLeDiff, w64s (show i < 4611686018427387904 by omega)]
      exact next_drop (i + 1) _ (by omega) ⟨by omega, by rw [all_range_succ, hp, hs, h2]; rfl⟩ WfM.nil (Nat.zero_le _) ⟨rfl, rfl, rfl, rfl, rfl, trivial⟩ ⟨trivial, trivial, trivial, trivial, trivial, trivial⟩ rfl
    · simp -implicitDefEqProofs only [go_sem, ↓reduceIte, Nat.reduceEqDiff, Nat.reduceAdd, Nat.reduceLeDiff]
      exact finK_v ⟨by rw [bad (by rw [hs, h2]; rfl)], rfl⟩
  · simp -implicitDefEqProofs only [go_sem, ↓reduceIte, Nat.reduceEqDiff, Nat.reduceAdd, Nat.reduceLeDiff]
    have : i = l.length := by omega
    subst this
    refine finK_v ⟨?_, rfl⟩
    rw [seasonOk, hp, Bool.and_true]
    have : decide ((l.length : Int) ≤ 60) = decide (l.length ≤ 60) := by rw [Bool.eq_iff_iff]; simp; omega
    rw [this]

theorem arePenC1 (x : Int) : AFun Tryz.prog F.impl_arePenalties_c1 [DV (vInt x)] [] fun d m => d = DV (.bool (!inB x 0 1000)) ∧ m = [] := by
  refine AFun.intro k_impl_arePenalties_c1 (by simp) ?_
  unfold c_impl_arePenalties_c1
  simp only [argE, Nat.reduceAdd]
  simp -implicitDefEqProofs only [go_sem, ↓reduceIte, Nat.reduceEqDiff, Nat.reduceAdd, Nat.reduceLeDiff]
  refine (within x 0 1000).callp (.v _ (.v _ (.v _ .nil))) ?_
  simp -implicitDefEqProofs only [go_sem, ↓reduceIte, Nat.reduceEqDiff, Nat.reduceAdd, Nat.reduceLeDiff]
  exact finK_v ⟨rfl, rfl⟩
theorem isFn_arePenC1 : isFn Tryz.prog F.impl_arePenalties_c1 = true := by kernel_rfl

theorem implArePen (l : List Int) (n : Nat) (hl : l.length < 4611686018427387904) : AFunD Tryz.prog F.impl_arePenalties [DV (vInts l), DV (vInt n)] (DV (.bool (pensOk l n))) := by
  refine AFunD.intro k_impl_arePenalties (by simp) ?pure ?_
  case pure => first | exact D.pure_v _ | exact D.pure_vs _
  unfold c_impl_arePenalties
  simp only [argE, Nat.reduceAdd]
  simp only [vInts]
  simp -implicitDefEqProofs only [go_sem, ↓reduceIte, Nat.reduceEqDiff, Nat.reduceAdd, Nat.reduceLeDiff]
  by_cases h : l.length = n
  · have h' : ((l.length : Int) = (n : Int)) := by omega
    simp -implicitDefEqProofs only [go_sem, ↓reduceIte, Nat.reduceEqDiff, Nat.reduceAdd, Nat.reduceLeDiff, h']
    refine (AFunG.of (containsFuncInt (l := l) (p := fun x => !inB x 0 1000) hl isFn_arePenC1 (caps := []) (mem := []) fun x _ => arePenC1 x)).mono ?_
    rintro _ _ ⟨rfl, rfl⟩
    simp -implicitDefEqProofs only [go_sem, ↓reduceIte, Nat.reduceEqDiff, Nat.reduceAdd, Nat.reduceLeDiff]
    refine finK_v ⟨?_, rfl⟩
    have : pensOk l n = !((List.range l.length).any fun i => (l[i]?).any fun x => !inB x 0 1000) := by
      rw [pensOk, decide_eq_true h, Bool.true_and, ← h, List.all_eq_not_any_not]
      congr 1
      exact any_congr fun j hj => by rw [penAt, List.getElem?_eq_getElem hj]; rfl
    rw [this]
  · have h' : ¬ ((l.length : Int) = (n : Int)) := by omega
    simp -implicitDefEqProofs only [go_sem, ↓reduceIte, Nat.reduceEqDiff, Nat.reduceAdd, Nat.reduceLeDiff, h']
    exact finK_v ⟨by simp [pensOk, h], rfl⟩

theorem implBookOk (b : Book) (hb : Fits b) : AFunD Tryz.prog F.impl_BookOk [dBook b] (DV (.bool (bookOk b))) := by
  refine AFunD.intro k_impl_BookOk (by simp) ?pure ?_
  case pure => first | exact D.pure_v _ | exact D.pure_vs _
  unfold c_impl_BookOk
  simp only [argE, Nat.reduceAdd]
  simp only [dBook, eBook, eRules]
  simp -implicitDefEqProofs only [go_sem, ↓reduceIte, Nat.reduceEqDiff, Nat.reduceAdd, Nat.reduceLeDiff, vTeams]
  refine (implFieldOk b.field hb.field hb.names).callp (.v _ .nil) ?_
  cases h1 : fieldOk b.field
  · simp -implicitDefEqProofs only [go_sem, ↓reduceIte, Nat.reduceEqDiff, Nat.reduceAdd, Nat.reduceLeDiff]
    exact finK_v ⟨by simp [bookOk, h1], rfl⟩
  simp -implicitDefEqProofs only [go_sem, ↓reduceIte, Nat.reduceEqDiff, Nat.reduceAdd, Nat.reduceLeDiff]
  refine (implRulesOk b.rules hb.ladder).callp (.vs (eRules b.rules) .nil) ?_
  cases h2 : rulesOk b.rules
  · simp -implicitDefEqProofs only [go_sem, ↓reduceIte, Nat.reduceEqDiff, Nat.reduceAdd, Nat.reduceLeDiff]
    exact finK_v ⟨by simp [bookOk, h2], rfl⟩
  simp -implicitDefEqProofs only [go_sem, ↓reduceIte, Nat.reduceEqDiff, Nat.reduceAdd, Nat.reduceLeDiff]
  refine (implSeasonOk b.field.length b.games hb.games).callp (.v _ (.v _ .nil)) ?_
  cases h3 : seasonOk b.field.length b.games
  · simp -implicitDefEqProofs only [go_sem, ↓reduceIte, Nat.reduceEqDiff, Nat.reduceAdd, Nat.reduceLeDiff]
    exact finK_v ⟨by simp [bookOk, h3], rfl⟩
  simp -implicitDefEqProofs only [go_sem, ↓reduceIte, Nat.reduceEqDiff, Nat.reduceAdd, Nat.reduceLeDiff]
  refine (implArePen b.fair b.field.length hb.fair).callp (.v _ (.v _ .nil)) ?_
  cases h4 : pensOk b.fair b.field.length
  · simp -implicitDefEqProofs only [go_sem, ↓reduceIte, Nat.reduceEqDiff, Nat.reduceAdd, Nat.reduceLeDiff]
    exact finK_v ⟨by simp [bookOk, h4], rfl⟩
  simp -implicitDefEqProofs only [go_sem, ↓reduceIte, Nat.reduceEqDiff, Nat.reduceAdd, Nat.reduceLeDiff]
  refine (implArePen b.taken b.field.length hb.taken).callp (.v _ (.v _ .nil)) ?_
  simp -implicitDefEqProofs only [go_sem, ↓reduceIte, Nat.reduceEqDiff, Nat.reduceAdd, Nat.reduceLeDiff]
  exact finK_v ⟨by rw [bookOk, h1, h2, h3, h4]; rfl, rfl⟩

end Go.Proofs.YtneiicadhjdbiaaGreat.Ab

namespace Go.Proofs.YtneiicadhjdbiaaGreat.Ab
open Go

def goals (g : Game) : Int × Int × Bool := if g.state = 1 then (g.hg, g.ag, true) else if g.state = 2 then (3, 0, true) else if g.state = 3 then (0, 3, true) else (0, 0, false)
def dGoals (p : Int × Int × Bool) : D := .tup [.c (.v (.int .i64 p.1)), .c (.v (.int .i64 p.2.1)), .c (.v (.bool p.2.2))]
theorem dGoals_pure (p : Int × Int × Bool) : (dGoals p).pure := fun x hx => by
  simp only [List.mem_cons, List.not_mem_nil, or_false] at hx
  rcases hx with rfl | rfl | rfl <;> exact ⟨_, rfl⟩

theorem finK_goals {K : D → List Blk → Prop} {m : List Blk} (p : Int × Int × Bool) (k : K (dGoals p) []) : finK 0 m K (dGoals p) :=
  finK_fz (show FzD m (dGoals p) (dGoals p) from ⟨⟨_, .v _, rfl⟩, ⟨_, .v _, rfl⟩, ⟨_, .v _, rfl⟩, trivial⟩) k

theorem specGoalsOf (g : Game) : AFunD Tryz.prog F.spec_GoalsOf [dGame g] (dGoals (goals g)) := by
  refine AFunD.intro k_spec_GoalsOf (by simp) (dGoals_pure _) ?_
  unfold c_spec_GoalsOf
  simp only [argE, Nat.reduceAdd, dGame, eGame]
  simp -implicitDefEqProofs only [go_sem, ↓reduceIte, Nat.reduceEqDiff, Nat.reduceAdd, Nat.reduceLeDiff]
  by_cases h1 : g.state = 1
  · simp -implicitDefEqProofs only [go_sem, ↓reduceIte, Nat.reduceEqDiff, Nat.reduceAdd, Nat.reduceLeDiff, h1]
    exact finK_goals (g.hg, g.ag, true) ⟨by rw [goals, if_pos h1], rfl⟩
  by_cases h2 : g.state = 2
  · simp -implicitDefEqProofs only [go_sem, ↓reduceIte, Nat.reduceEqDiff, Nat.reduceAdd, Nat.reduceLeDiff, h2, Int.reduceEq]
    exact finK_goals (3, 0, true) ⟨by rw [goals, if_neg h1, if_pos h2], rfl⟩
  by_cases h3 : g.state = 3
  · simp -implicitDefEqProofs only [go_sem, ↓reduceIte, Nat.reduceEqDiff, Nat.reduceAdd, Nat.reduceLeDiff, h3, Int.reduceEq]
    exact finK_goals (0, 3, true) ⟨by rw [goals, if_neg h1, if_neg h2, if_pos h3], rfl⟩
  simp -implicitDefEqProofs only [go_sem, ↓reduceIte, Nat.reduceEqDiff, Nat.reduceAdd, Nat.reduceLeDiff, h1, h2, h3]
  exact finK_goals (0, 0, false) ⟨by rw [goals, if_neg h1, if_neg h2, if_neg h3], rfl⟩

theorem implGoalsOf (g : Game) : AFunD Tryz.prog F.impl_GoalsOf [dGame g] (dGoals (goals g)) := by
  refine AFunD.intro k_impl_GoalsOf (by simp) (dGoals_pure _) ?_
  unfold c_impl_GoalsOf
  simp only [argE, Nat.reduceAdd, dGame, eGame]
  simp -implicitDefEqProofs only [go_sem, ↓reduceIte, Nat.reduceEqDiff, Nat.reduceAdd, Nat.reduceLeDiff]
  by_cases h1 : g.state = 1
  · simp -implicitDefEqProofs only [go_sem, ↓reduceIte, Nat.reduceEqDiff, Nat.reduceAdd, Nat.reduceLeDiff, h1]
    exact finK_goals (g.hg, g.ag, true) ⟨by rw [goals, if_pos h1], rfl⟩
  by_cases h2 : g.state = 2
  · simp -implicitDefEqProofs only [go_sem, ↓reduceIte, Nat.reduceEqDiff, Nat.reduceAdd, Nat.reduceLeDiff, h2, Int.reduceEq]
    exact finK_goals (3, 0, true) ⟨by rw [goals, if_neg h1, if_pos h2], rfl⟩
  by_cases h3 : g.state = 3
  · simp -implicitDefEqProofs only [go_sem, ↓reduceIte, Nat.reduceEqDiff, Nat.reduceAdd, Nat.reduceLeDiff, h3, Int.reduceEq]
    exact finK_goals (0, 3, true) ⟨by rw [goals, if_neg h1, if_neg h2, if_pos h3], rfl⟩
  simp -implicitDefEqProofs only [go_sem, ↓reduceIte, Nat.reduceEqDiff, Nat.reduceAdd, Nat.reduceLeDiff, h1, h2, h3]
  exact finK_goals (0, 0, false) ⟨by rw [goals, if_neg h1, if_neg h2, if_neg h3], rfl⟩

def isMutual (k : Int) : Bool := decide (k = 5) || decide (k = 6)
theorem specIsMutual (k : Int) : AFunD Tryz.prog F.spec_IsMutual [DV (vInt k)] (DV (.bool (isMutual k))) := by
  refine AFunD.intro k_spec_IsMutual (by simp) ?pure ?_
  case pure => first | exact D.pure_v _ | exact D.pure_vs _
  unfold c_spec_IsMutual
  simp only [argE, Nat.reduceAdd]
  simp -implicitDefEqProofs only [go_sem, ↓reduceIte, Nat.reduceEqDiff, Nat.reduceAdd, Nat.reduceLeDiff]
  cases h1 : decide (k = 5)
  · simp -implicitDefEqProofs only [go_sem, ↓reduceIte, Nat.reduceEqDiff, Nat.reduceAdd, Nat.reduceLeDiff, h1]
    exact finK_v ⟨by rw [isMutual, h1]; rfl, rfl⟩
  · simp -implicitDefEqProofs only [go_sem, ↓reduceIte, Nat.reduceEqDiff, Nat.reduceAdd, Nat.reduceLeDiff, h1]
    exact finK_v ⟨by rw [isMutual, h1]; rfl, rfl⟩
theorem implIsMutual (k : Int) : AFunD Tryz.prog F.impl_IsMutual [DV (vInt k)] (DV (.bool (isMutual k))) := by
  refine AFunD.intro k_impl_IsMutual (by simp) ?pure ?_
  case pure => first | exact D.pure_v _ | exact D.pure_vs _
  unfold c_impl_IsMutual
  simp only [argE, Nat.reduceAdd]
  simp -implicitDefEqProofs only [go_sem, ↓reduceIte, Nat.reduceEqDiff, Nat.reduceAdd, Nat.reduceLeDiff]
  cases h1 : decide (k = 5)
  · simp -implicitDefEqProofs only [go_sem, ↓reduceIte, Nat.reduceEqDiff, Nat.reduceAdd, Nat.reduceLeDiff, h1]
    exact finK_v ⟨by rw [isMutual, h1]; rfl, rfl⟩
  · simp -implicitDefEqProofs only [go_sem, ↓reduceIte, Nat.reduceEqDiff, Nat.reduceAdd, Nat.reduceLeDiff, h1]
    exact finK_v ⟨by rw [isMutual, h1]; rfl, rfl⟩

theorem specIsOpen (g : Game) : AFunD Tryz.prog F.spec_IsOpen [dGame g] (DV (.bool (decide (g.state = 0)))) := by
  refine AFunD.intro k_spec_IsOpen (by simp) ?pure ?_
  case pure => first | exact D.pure_v _ | exact D.pure_vs _
  unfold c_spec_IsOpen
  simp only [argE, Nat.reduceAdd]
  simp only [dGame, eGame]
  simp -implicitDefEqProofs only [go_sem, ↓reduceIte, Nat.reduceEqDiff, Nat.reduceAdd, Nat.reduceLeDiff]
  exact finK_v ⟨rfl, rfl⟩
theorem implIsOpen (g : Game) : AFunD Tryz.prog F.impl_IsOpen [dGame g] (DV (.bool (decide (g.state = 0)))) := by
  refine AFunD.intro k_impl_IsOpen (by simp) ?pure ?_
  case pure => first | exact D.pure_v _ | exact D.pure_vs _
  unfold c_impl_IsOpen
  simp only [argE, Nat.reduceAdd]
  simp only [dGame, eGame]
  simp -implicitDefEqProofs only [go_sem, ↓reduceIte, Nat.reduceEqDiff, Nat.reduceAdd, Nat.reduceLeDiff]
  exact finK_v ⟨rfl, rfl⟩

def playGame (g : Game) (o : Int) : Game := if inB o 1 3 = true then ⟨g.home, g.away, if o = 1 then 1 else 0, if o = 3 then 1 else 0, 1⟩ else g

theorem finK_game {K : D → List Blk → Prop} {m : List Blk} (g : Game) (k : K (dGame g) []) : finK 0 m K (dGame g) := finK_fz (FzD.agg (FzCs.vs (eGame g))) k

theorem specPlayGame (g : Game) (o : Int) : AFunD Tryz.prog F.spec_PlayGame [dGame g, DV (vInt o)] (dGame (playGame g o)) := by
  refine AFunD.intro k_spec_PlayGame (by simp) ?pure ?_
  case pure => first | exact D.pure_v _ | exact D.pure_vs _
  unfold c_spec_PlayGame
  simp only [argE, Nat.reduceAdd]
  simp only [dGame, eGame]
  simp -implicitDefEqProofs only [go_sem, ↓reduceIte, Nat.reduceEqDiff, Nat.reduceAdd, Nat.reduceLeDiff]
  refine (l01In o 1 3).callp (.v _ (.v _ (.v _ .nil))) ?_
  cases h : inB o 1 3
  · simp -implicitDefEqProofs only [go_sem, ↓reduceIte, Nat.reduceEqDiff, Nat.reduceAdd, Nat.reduceLeDiff]
    exact finK_game g ⟨by rw [playGame, h]; rfl, rfl⟩
  by_cases h1 : o = 1
  · simp -implicitDefEqProofs only [go_sem, ↓reduceIte, Nat.reduceEqDiff, Nat.reduceAdd, Nat.reduceLeDiff, h1, Int.reduceEq]
    exact finK_game ⟨g.home, g.away, 1, 0, 1⟩ ⟨by subst h1; rfl, rfl⟩
  by_cases h3 : o = 3
  · simp -implicitDefEqProofs only [go_sem, ↓reduceIte, Nat.reduceEqDiff, Nat.reduceAdd, Nat.reduceLeDiff, h3, Int.reduceEq]
    exact finK_game ⟨g.home, g.away, 0, 1, 1⟩ ⟨by subst h3; rfl, rfl⟩
  simp -implicitDefEqProofs only [go_sem, ↓reduceIte, Nat.reduceEqDiff, Nat.reduceAdd, Nat.reduceLeDiff, h1, h3]
  exact finK_game ⟨g.home, g.away, 0, 0, 1⟩ ⟨by rw [playGame, h, if_pos rfl, if_neg h1, if_neg h3]; rfl, rfl⟩

theorem implPlayGame (g : Game) (o : Int) : AFunD Tryz.prog F.impl_PlayGame [dGame g, DV (vInt o)] (dGame (playGame g o)) := by
  refine AFunD.intro k_impl_PlayGame (by simp) ?pure ?_
  case pure => first | exact D.pure_v _ | exact D.pure_vs _
  unfold c_impl_PlayGame
  simp only [argE, Nat.reduceAdd]
  simp only [dGame, eGame]
  simp -implicitDefEqProofs only [go_sem, ↓reduceIte, Nat.reduceEqDiff, Nat.reduceAdd, Nat.reduceLeDiff]
  refine (within o 1 3).callp (.v _ (.v _ (.v _ .nil))) ?_
  cases h : inB o 1 3
  · simp -implicitDefEqProofs only [go_sem, ↓reduceIte, Nat.reduceEqDiff, Nat.reduceAdd, Nat.reduceLeDiff]
    exact finK_game g ⟨by rw [playGame, h]; rfl, rfl⟩
  by_cases h1 : o = 1
  · simp -implicitDefEqProofs only [go_sem, ↓reduceIte, Nat.reduceEqDiff, Nat.reduceAdd, Nat.reduceLeDiff, h1, Int.reduceEq]
    exact finK_game ⟨g.home, g.away, 1, 0, 1⟩ ⟨by subst h1; rfl, rfl⟩
  by_cases h3 : o = 3
  · simp -implicitDefEqProofs only [go_sem, ↓reduceIte, Nat.reduceEqDiff, Nat.reduceAdd, Nat.reduceLeDiff, h3, Int.reduceEq]
    exact finK_game ⟨g.home, g.away, 0, 1, 1⟩ ⟨by subst h3; rfl, rfl⟩
  simp -implicitDefEqProofs only [go_sem, ↓reduceIte, Nat.reduceEqDiff, Nat.reduceAdd, Nat.reduceLeDiff, h1, h3]
  exact finK_game ⟨g.home, g.away, 0, 0, 1⟩ ⟨by rw [playGame, h, if_pos rfl, if_neg h1, if_neg h3]; rfl, rfl⟩

end Go.Proofs.YtneiicadhjdbiaaGreat.Ab

namespace Go.Proofs.YtneiicadhjdbiaaGreat.Ab
open Go

/-- A result in blocks of data, under names of their own. -/
theorem finK_pick {K : D → List Blk → Prop} {m : List Blk} {d : D} (ρ : List Nat) (m' : List Blk) (d' : D) (hn : ρ.Nodup) (hlen : m'.length = ρ.length)
    (hb : ∀ (i : Nat) (b' : Blk), m'[i]? = some b' → (∃ ys : List V, b' = .cells (ys.map .v)) ∧ m[ρ.getD i 0]? = some b') (hd : LeD (fun i => ρ.getD i 0) d' d) (hlt : d'.lt m'.length) (k : K d' m') : finK 0 m K d :=
  ⟨d', m', WkD.of ρ (fun i j hi hj he => by
    rw [hlen] at hi hj
    simp only [List.getD_eq_getElem?_getD, List.getElem?_eq_getElem hi, List.getElem?_eq_getElem hj, Option.getD_some] at he
    exact nodup_inj hn hi hj he) (fun i b' hi => by
    obtain ⟨⟨ys, rfl⟩, h2⟩ := hb i b' hi
    exact ⟨_, h2, ltCs_vs ys, leCs_vs ys⟩) hd hlt, k⟩

theorem dBookOwn_le (b : Book) (ρ : Nat → Nat) (i : Nat) {d : D} (h : d = DA [.sl 3 (ρ i) 0 b.field.length, .v (.int .i64 b.rules.win), .v (.int .i64 b.rules.draw), .v (.int .i64 b.rules.loss), .sl 1 (ρ (i + 1)) 0 b.rules.ladder.length, .v (.bool b.rules.again), .sl 5 (ρ (i + 2)) 0 b.games.length, .sl 1 (ρ (i + 3)) 0 b.fair.length, .sl 1 (ρ (i + 4)) 0 b.taken.length]) : LeD ρ (dBookOwn b i) d := by
  subst h
  exact ⟨rfl, .inr rfl, .inr rfl, .inr rfl, .inr rfl, .inr rfl, .inr rfl, .inr rfl, .inr rfl, .inr rfl, trivial⟩

theorem dBookOwn_lt (b : Book) : (dBookOwn b 0).lt (memBook b).length := by
  have lt5 : ∀ i : Nat, i < 5 → i < (memBook b).length := fun i h => h
  exact ⟨lt5 0 (by omega), trivial, trivial, trivial, lt5 1 (by omega), trivial, lt5 2 (by omega), lt5 3 (by omega), lt5 4 (by omega), trivial⟩

theorem l16Copy (b : Book) (hb : Small b) : AFun Tryz.prog F.spec_l16Copy [dBook b] [] fun d m => d = dBookOwn b 0 ∧ m = memBook b := by
  obtain ⟨p1, p2, p3, p4, p5⟩ := hb
  refine AFun.intro k_spec_l16Copy (by simp) ?_
  unfold c_spec_l16Copy
  simp only [argE, Nat.reduceAdd]
  simp only [dBook, eBook, eRules]
  simp -implicitDefEqProofs only [go_sem, ↓reduceIte, Nat.reduceEqDiff, Nat.reduceAdd, Nat.reduceLeDiff, vTeams, vInts, vGames]
  refine ⟨by omega, by omega, by omega, by omega, by omega, ?_⟩
  simp only [Nat.zero_add]
  refine finK_pick [3, 5, 7, 9, 11] (memBook b) (dBookOwn b 0) (by decide) rfl (fun i b' hi => ?_) (dBookOwn_le b _ 0 rfl) (dBookOwn_lt b) ⟨rfl, rfl⟩
  match i, hi with
  | 0, hi => cases hi; exact ⟨cOf_data _ _, rfl⟩
  | 1, hi => cases hi; exact ⟨cOf_data _ _, rfl⟩
  | 2, hi => cases hi; exact ⟨cOf_data _ _, rfl⟩
  | 3, hi => cases hi; exact ⟨cOf_data _ _, rfl⟩
  | 4, hi => cases hi; exact ⟨cOf_data _ _, rfl⟩
  | i + 5, hi => simp [memBook] at hi

/-- Nil, read as an own slice without room. -/
theorem finK_nil {K : D → List Blk → Prop} (sz : Nat) (k : K (DC (.sl sz 0 0 0)) [.cells []]) : finK 0 [] K (DC .nil) := by
  refine ⟨DC (.sl sz 0 0 0), [.cells []], fun X σ w v hm hv => ?_, k⟩
  obtain ⟨A, rfl⟩ := hv
  have hno : ∀ b, ¬ Own (fun i => if i = 0 then some none else none) [Blk.cells []] b := fun b ⟨id, cs, N, _, h2⟩ => by
    simp only at h2
    split at h2 <;> cases h2
  refine ⟨fun i => if i = 0 then some none else none, .inl ⟨by simp, rfl, A, rfl⟩, ⟨fun id cs hid => ?_, fun id id' b N N' cs cs' _ _ h3 _ => ?_, fun b hb => ⟨(hm.far b hb).1, hno b⟩, fun id hid => ?_⟩,
    ⟨fun id hid => absurd hid (Nat.not_lt_zero _), rfl, rfl, rfl, Nat.le_refl _, fun _ _ _ => rfl, fun b hb => (hno b hb).elim⟩, Nat.zero_le _⟩
  · cases id with
    | zero => cases hid; exact .inl ⟨by simp, rfl⟩
    | succ id => simp at hid
  · split at h3 <;> cases h3
  · simp only [List.length_cons, List.length_nil] at hid
    exact if_neg (by omega)


theorem isnil_ro {e : Env} {m : List Blk} {K : D → Prop} {sz : Nat} {es : List (List V)} {x : Nat} (h1 : True → K (DV (.bool false))) (h2 : es.length = 0 → K (DV (.bool true))) (hx : get e x = DV (.ro sz es) := by rfl) : fop (.isnil false (.t x)) e m K := by
  simp only [fop, ev, hx]
  split
  · exact h1 trivial
  · intro b
    cases b with
    | false => exact h1 trivial
    | true => exact h2 (by omega)

theorem cloneInt (l : List Int) (hl : l.length ≤ 1048576) : AFun Tryz.prog F.slices_Clone_int [DV (vInts l)] [] fun d m => d = DC (.sl 1 0 0 l.length) ∧ m = [.cells (cOf eInt l)] := by
  refine AFun.intro k_slices_Clone_int (by simp) ?_
  unfold c_slices_Clone_int
  simp only [argE, Nat.reduceAdd]
  simp only [vInts]
  simp -implicitDefEqProofs only [go_sem, ↓reduceIte, Nat.reduceEqDiff, Nat.reduceAdd, Nat.reduceLeDiff]
  refine isnil_ro (fun h => ?_) (fun h => ?_)
  · simp -implicitDefEqProofs only [go_sem, ↓reduceIte, Nat.reduceEqDiff, Nat.reduceAdd, Nat.reduceLeDiff]
    refine ⟨by omega, ?_⟩
    simp only [Nat.zero_add]
    exact finK_pick [1] [.cells (cOf eInt l)] (DC (.sl 1 0 0 l.length)) (by decide) rfl (fun i b' hi => by
      match i, hi with
      | 0, hi => cases hi; exact ⟨cOf_data _ _, rfl⟩
      | i + 1, hi => simp at hi) (.inr rfl) (show 0 < 1 from Nat.zero_lt_one) ⟨rfl, rfl⟩
  · have hn : l = [] := by simpa using h
    subst hn
    simp -implicitDefEqProofs only [go_sem, ↓reduceIte, Nat.reduceEqDiff, Nat.reduceAdd, Nat.reduceLeDiff]
    exact finK_nil 1 ⟨rfl, rfl⟩

theorem cloneTeam (l : List Team) (hl : l.length ≤ 1048576) : AFun Tryz.prog F.slices_Clone_Team [DV (vTeams l)] [] fun d m => d = DC (.sl 3 0 0 l.length) ∧ m = [.cells (cOf eTeam l)] := by
  refine AFun.intro k_slices_Clone_Team (by simp) ?_
  unfold c_slices_Clone_Team
  simp only [argE, Nat.reduceAdd]
  simp only [vTeams]
  simp -implicitDefEqProofs only [go_sem, ↓reduceIte, Nat.reduceEqDiff, Nat.reduceAdd, Nat.reduceLeDiff]
  refine isnil_ro (fun h => ?_) (fun h => ?_)
  · simp -implicitDefEqProofs only [go_sem, ↓reduceIte, Nat.reduceEqDiff, Nat.reduceAdd, Nat.reduceLeDiff]
    refine ⟨by omega, ?_⟩
    simp only [Nat.zero_add]
    exact finK_pick [1] [.cells (cOf eTeam l)] (DC (.sl 3 0 0 l.length)) (by decide) rfl (fun i b' hi => by
      match i, hi with
      | 0, hi => cases hi; exact ⟨cOf_data _ _, rfl⟩
      | i + 1, hi => simp at hi) (.inr rfl) (show 0 < 1 from Nat.zero_lt_one) ⟨rfl, rfl⟩
  · have hn : l = [] := by simpa using h
    subst hn
    simp -implicitDefEqProofs only [go_sem, ↓reduceIte, Nat.reduceEqDiff, Nat.reduceAdd, Nat.reduceLeDiff]
    exact finK_nil 3 ⟨rfl, rfl⟩

theorem cloneGame (l : List Game) (hl : l.length ≤ 1048576) : AFun Tryz.prog F.slices_Clone_Game [DV (vGames l)] [] fun d m => d = DC (.sl 5 0 0 l.length) ∧ m = [.cells (cOf eGame l)] := by
  refine AFun.intro k_slices_Clone_Game (by simp) ?_
  unfold c_slices_Clone_Game
  simp only [argE, Nat.reduceAdd]
  simp only [vGames]
  simp -implicitDefEqProofs only [go_sem, ↓reduceIte, Nat.reduceEqDiff, Nat.reduceAdd, Nat.reduceLeDiff]
  refine isnil_ro (fun h => ?_) (fun h => ?_)
  · simp -implicitDefEqProofs only [go_sem, ↓reduceIte, Nat.reduceEqDiff, Nat.reduceAdd, Nat.reduceLeDiff]
    refine ⟨by omega, ?_⟩
    simp only [Nat.zero_add]
    exact finK_pick [1] [.cells (cOf eGame l)] (DC (.sl 5 0 0 l.length)) (by decide) rfl (fun i b' hi => by
      match i, hi with
      | 0, hi => cases hi; exact ⟨cOf_data _ _, rfl⟩
      | i + 1, hi => simp at hi) (.inr rfl) (show 0 < 1 from Nat.zero_lt_one) ⟨rfl, rfl⟩
  · have hn : l = [] := by simpa using h
    subst hn
    simp -implicitDefEqProofs only [go_sem, ↓reduceIte, Nat.reduceEqDiff, Nat.reduceAdd, Nat.reduceLeDiff]
    exact finK_nil 5 ⟨rfl, rfl⟩

end Go.Proofs.YtneiicadhjdbiaaGreat.Ab

namespace Go.Proofs.YtneiicadhjdbiaaGreat.Ab
open Go

theorem implCopied (b : Book) (hb : Small b) : AFun Tryz.prog F.impl_Book_copied [dBook b] [] fun d m => d = dBookOwn b 0 ∧ m = memBook b := by
  refine AFun.intro k_impl_Book_copied (by simp) ?_
  unfold c_impl_Book_copied
  simp only [argE, Nat.reduceAdd]
  simp only [dBook, eBook, eRules]
  simp -implicitDefEqProofs only [go_sem, ↓reduceIte, Nat.reduceEqDiff, Nat.reduceAdd, Nat.reduceLeDiff]
  refine (cloneTeam b.field hb.field).callp (.v _ .nil) ?_
  rintro _ _ ⟨rfl, rfl⟩
  simp -implicitDefEqProofs only [go_sem, ↓reduceIte, Nat.reduceEqDiff, Nat.reduceAdd, Nat.reduceLeDiff]
  refine (cloneGame b.games hb.games).callp (.v _ .nil) ?_
  rintro _ _ ⟨rfl, rfl⟩
  simp -implicitDefEqProofs only [go_sem, ↓reduceIte, Nat.reduceEqDiff, Nat.reduceAdd, Nat.reduceLeDiff]
  refine (cloneInt b.fair hb.fair).callp (.v _ .nil) ?_
  rintro _ _ ⟨rfl, rfl⟩
  simp -implicitDefEqProofs only [go_sem, ↓reduceIte, Nat.reduceEqDiff, Nat.reduceAdd, Nat.reduceLeDiff]
  refine (cloneInt b.taken hb.taken).callp (.v _ .nil) ?_
  rintro _ _ ⟨rfl, rfl⟩
  simp -implicitDefEqProofs only [go_sem, ↓reduceIte, Nat.reduceEqDiff, Nat.reduceAdd, Nat.reduceLeDiff]
  refine (cloneInt b.rules.ladder hb.ladder).callp (.v _ .nil) ?_
  rintro _ _ ⟨rfl, rfl⟩
  simp -implicitDefEqProofs only [go_sem, ↓reduceIte, Nat.reduceEqDiff, Nat.reduceAdd, Nat.reduceLeDiff]
  refine finK_pick [2, 6, 3, 4, 5] (memBook b) (dBookOwn b 0) (by decide) rfl (fun i b' hi => ?_) (dBookOwn_le b _ 0 rfl) (dBookOwn_lt b) ⟨rfl, rfl⟩
  match i, hi with
  | 0, hi => cases hi; exact ⟨cOf_data _ _, rfl⟩
  | 1, hi => cases hi; exact ⟨cOf_data _ _, rfl⟩
  | 2, hi => cases hi; exact ⟨cOf_data _ _, rfl⟩
  | 3, hi => cases hi; exact ⟨cOf_data _ _, rfl⟩
  | 4, hi => cases hi; exact ⟨cOf_data _ _, rfl⟩
  | i + 5, hi => simp [memBook] at hi

/-- The next state, its blocks under other names. -/
theorem next_pick {e : Env} {m : List Blk} {S : Type} {E : S → Env} {M : S → List Blk} {ms : S → Nat} {inv : S → Prop} {s : S} (s' : S) (ρ : List Nat) (hms : ms s' < ms s) (hinv : inv s') (hn : ρ.Nodup) (hlen : (M s').length = ρ.length)
    (hb : ∀ (i : Nat) (b' : Blk), (M s')[i]? = some b' → (∃ ys : List V, b' = .cells (ys.map .v)) ∧ m[ρ.getD i 0]? = some b') (he : LeE (fun i => ρ.getD i 0) (M s').length (E s') e) : nextK 0 E M ms inv s e m :=
  next_ren s' (fun i => ρ.getD i 0) hms hinv ⟨fun id h => absurd h (Nat.not_lt_zero _), fun i j hi hj he => by
    rw [hlen] at hi hj
    simp only [List.getD_eq_getElem?_getD, List.getElem?_eq_getElem hi, List.getElem?_eq_getElem hj, Option.getD_some] at he
    exact nodup_inj hn hi hj he, fun i b' hi => by
    obtain ⟨⟨ys, rfl⟩, h2⟩ := hb i b' hi
    exact ⟨_, h2, ltCs_vs ys, leCs_vs ys⟩, Nat.zero_le _⟩ he

def upTo (n : Nat) : List Int := (List.range n).map fun (i : Nat) => (i : Int)
theorem upTo_succ (n : Nat) : upTo (n + 1) = upTo n ++ [(n : Int)] := by simp [upTo, List.range_succ]
theorem upTo_len (n : Nat) : (upTo n).length = n := by simp [upTo]

/-- One more is appended to an own slice: the old block is let go, the new one takes its name. -/
theorem implUpTo (n : Nat) (hn : n ≤ 1048576) : AFun Tryz.prog F.impl_upTo [DV (vInt n)] [] fun d m => d = DC (.sl 1 0 0 n) ∧ m = [.cells (cOf eInt (upTo n))] := by
  refine AFun.intro k_impl_upTo (by simp) ?_
  unfold c_impl_upTo
  simp only [argE, Nat.reduceAdd]
  simp -implicitDefEqProofs only [go_sem, ↓reduceIte, Nat.reduceEqDiff, Nat.reduceAdd, Nat.reduceLeDiff]
  refine loop_st (S := Nat) (fun i => [(0, DV (vInt n)), (3, DC (.sl 1 0 0 i)), (7, DV (vInt n)), (8, DV (vInt i))]) (fun i => [.cells (cOf eInt (upTo i))]) (fun i => n - i) (fun i => i ≤ n) 0 (Nat.zero_le _)
    ⟨rfl, rfl, by simp only [get, ↓reduceIte, Nat.reduceEqDiff, vInt]; split <;> first | rfl | omega, rfl, trivial⟩ rfl (Nat.zero_le _) ?_
  intro i hi
  simp -implicitDefEqProofs only [go_sem, ↓reduceIte, Nat.reduceEqDiff, Nat.reduceAdd, Nat.reduceLeDiff, vInt]
  refine condA_dec (fun h => ?_) (fun h => ?_)
  · have hlt : i < n := by omega
    have hl : (cOf eInt (upTo i)).length = i * 1 := by rw [flat_len eInt 1 (fun _ => rfl), upTo_len]
    simp -implicitDefEqProofs only [go_sem, ↓reduceIte, Nat.reduceEqDiff, Nat.reduceAdd, Nat.reduceLeDiff]
    rw [if_pos hl]
    simp -implicitDefEqProofs only [go_sem, ↓reduceIte, Nat.reduceEqDiff, Nat.reduceAdd, Nat.reduceLeDiff, w64s (show i < 4611686018427387904 by omega)]
    refine ⟨by omega, ?_⟩
    have e1 : cOf eInt (upTo i) ++ [C.v (V.int IntKind.i64 (i : Int))] = cOf eInt (upTo (i + 1)) := by rw [upTo_succ, cOf_append, cOf_one]; rfl
    rw [e1]
    exact next_pick (i + 1) [2] (by omega) (by omega) (by decide) rfl (fun j b' hj => by
      match j, hj with
      | 0, hj => cases hj; exact ⟨cOf_data _ _, rfl⟩
      | j + 1, hj => simp at hj) ⟨⟨trivial, .inr rfl⟩, ⟨Nat.zero_lt_one, .inr rfl⟩, ⟨trivial, .inr rfl⟩, ⟨trivial, .inr rfl⟩, trivial⟩
  · simp -implicitDefEqProofs only [go_sem, ↓reduceIte, Nat.reduceEqDiff, Nat.reduceAdd, Nat.reduceLeDiff]
    have : i = n := by omega
    subst this
    exact finK_refl (Nat.zero_le _) ⟨rfl, rfl⟩

theorem specAll (b : Book) (hn : b.field.length ≤ 1048576) : AFun Tryz.prog F.spec_l07All [dBook b] [] fun d m => d = DC (.sl 1 0 0 b.field.length) ∧ m = [.cells (cOf eInt (upTo b.field.length))] := by
  refine AFun.intro k_spec_l07All (by simp) ?_
  unfold c_spec_l07All
  simp only [argE, Nat.reduceAdd]
  simp only [dBook, eBook, eRules]
  simp -implicitDefEqProofs only [go_sem, ↓reduceIte, Nat.reduceEqDiff, Nat.reduceAdd, Nat.reduceLeDiff, vTeams]
  let n := b.field.length
  have hn : n ≤ 1048576 := hn
  refine loop_st (S := Nat) (fun i => [(3, DC (.sl 1 1 0 i)), (8, DV (vInt n)), (9, DV (vInt i))]) (fun i => [.cells ((eBook b).map .v), .cells (cOf eInt (upTo i))]) (fun i => n - i) (fun i => i ≤ n) 0 (Nat.zero_le _)
    ⟨rfl, rfl, rfl, trivial⟩ rfl (Nat.zero_le _) ?_
  intro i hi
  simp -implicitDefEqProofs only [go_sem, ↓reduceIte, Nat.reduceEqDiff, Nat.reduceAdd, Nat.reduceLeDiff, vInt]
  refine condA_dec (fun h => ?_) (fun h => ?_)
  · have hlt : i < n := by omega
    have hl : (cOf eInt (upTo i)).length = i * 1 := by rw [flat_len eInt 1 (fun _ => rfl), upTo_len]
    simp -implicitDefEqProofs only [go_sem, ↓reduceIte, Nat.reduceEqDiff, Nat.reduceAdd, Nat.reduceLeDiff]
    rw [if_pos hl]
    simp -implicitDefEqProofs only [go_sem, ↓reduceIte, Nat.reduceEqDiff, Nat.reduceAdd, Nat.reduceLeDiff, w64s (show i < 4611686018427387904 by omega)]
    refine ⟨by omega, ?_⟩
    have e1 : cOf eInt (upTo i) ++ [C.v (V.int IntKind.i64 (i : Int))] = cOf eInt (upTo (i + 1)) := by rw [upTo_succ, cOf_append, cOf_one]; rfl
    rw [e1]
    exact next_pick (i + 1) [0, 3] (by omega) (by omega) (by decide) rfl (fun j b' hj => by
      match j, hj with
      | 0, hj => cases hj; exact ⟨⟨eBook b, rfl⟩, rfl⟩
      | 1, hj => cases hj; exact ⟨cOf_data _ _, rfl⟩
      | j + 2, hj => simp at hj) ⟨⟨by show 1 < 2; omega, .inr rfl⟩, ⟨trivial, .inr rfl⟩, ⟨trivial, .inr rfl⟩, trivial⟩
  · simp -implicitDefEqProofs only [go_sem, ↓reduceIte, Nat.reduceEqDiff, Nat.reduceAdd, Nat.reduceLeDiff]
    have hin : i = n := by omega
    refine finK_pick [1] [.cells (cOf eInt (upTo i))] (DC (.sl 1 0 0 i)) (by decide) rfl (fun j b' hj => ?_) (.inr rfl) (show 0 < 1 from Nat.zero_lt_one) ⟨by rw [hin], by rw [hin]⟩
    match j, hj with
    | 0, hj => cases hj; exact ⟨cOf_data _ _, rfl⟩
    | j + 1, hj => simp at hj

end Go.Proofs.YtneiicadhjdbiaaGreat.Ab

namespace Go.Proofs.YtneiicadhjdbiaaGreat.Ab
open Go

def outcome (p : Int × Int × Bool) : Int := if p.2.2 = false then 0 else if p.2.1 < p.1 then 1 else if p.1 = p.2.1 then 2 else 3

theorem specOutcomeOf (g : Game) : AFunD Tryz.prog F.spec_OutcomeOf [dGame g] (DV (vInt (outcome (goals g)))) := by
  refine AFunD.intro k_spec_OutcomeOf (by simp) ?pure ?_
  case pure => first | exact D.pure_v _ | exact D.pure_vs _
  unfold c_spec_OutcomeOf
  simp only [argE, Nat.reduceAdd]
  simp only [dGame, eGame]
  simp -implicitDefEqProofs only [go_sem, ↓reduceIte, Nat.reduceEqDiff, Nat.reduceAdd, Nat.reduceLeDiff]
  refine (specGoalsOf g).callp (.vs (eGame g) .nil) ?_
  obtain ⟨a, b, c⟩ := goals g
  simp -implicitDefEqProofs only [go_sem, ↓reduceIte, Nat.reduceEqDiff, Nat.reduceAdd, Nat.reduceLeDiff, dGoals]
  cases c
  · simp -implicitDefEqProofs only [go_sem, ↓reduceIte, Nat.reduceEqDiff, Nat.reduceAdd, Nat.reduceLeDiff]
    exact finK_v ⟨rfl, rfl⟩
  simp -implicitDefEqProofs only [go_sem, ↓reduceIte, Nat.reduceEqDiff, Nat.reduceAdd, Nat.reduceLeDiff]
  by_cases h1 : b < a
  · simp -implicitDefEqProofs only [go_sem, ↓reduceIte, Nat.reduceEqDiff, Nat.reduceAdd, Nat.reduceLeDiff, h1]
    exact finK_v ⟨by simp only [outcome, if_pos h1]; rfl, rfl⟩
  by_cases h2 : a = b
  · simp -implicitDefEqProofs only [go_sem, ↓reduceIte, Nat.reduceEqDiff, Nat.reduceAdd, Nat.reduceLeDiff, h1, h2, Int.lt_irrefl]
    exact finK_v ⟨by subst h2; simp [outcome], rfl⟩
  simp -implicitDefEqProofs only [go_sem, ↓reduceIte, Nat.reduceEqDiff, Nat.reduceAdd, Nat.reduceLeDiff, h1, h2]
  exact finK_v ⟨by simp [outcome, h1, h2], rfl⟩

/-- All numbers of a row lie from 0 to k. -/
structure Row.Sm (r : Row) (k : Int) : Prop where
  played : 0 ≤ r.played ∧ r.played ≤ k
  wins : 0 ≤ r.wins ∧ r.wins ≤ k
  draws : 0 ≤ r.draws ∧ r.draws ≤ k
  losses : 0 ≤ r.losses ∧ r.losses ≤ k
  scored : 0 ≤ r.scored ∧ r.scored ≤ k
  against : 0 ≤ r.against ∧ r.against ≤ k
  points : 0 ≤ r.points ∧ r.points ≤ k

def addRow (a b : Row) : Row := ⟨a.played + b.played, a.wins + b.wins, a.draws + b.draws, a.losses + b.losses, a.scored + b.scored, a.against + b.against, a.points + b.points⟩

theorem finK_row {K : D → List Blk → Prop} {m : List Blk} (r : Row) (k : K (dRow r) []) : finK 0 m K (dRow r) := finK_fz (FzD.agg (FzCs.vs (eRow r))) k

theorem specAddRows (a b : Row) (ha : a.Sm 1000000000) (hb : b.Sm 1000000000) : AFunD Tryz.prog F.spec_AddRows [dRow a, dRow b] (dRow (addRow a b)) := by
  obtain ⟨a1, a2, a3, a4, a5, a6, a7⟩ := ha
  obtain ⟨b1, b2, b3, b4, b5, b6, b7⟩ := hb
  refine AFunD.intro k_spec_AddRows (by simp) ?pure ?_
  case pure => first | exact D.pure_v _ | exact D.pure_vs _
  unfold c_spec_AddRows
  simp only [argE, Nat.reduceAdd]
  simp only [dRow, eRow]
  simp -implicitDefEqProofs only [go_sem, ↓reduceIte, Nat.reduceEqDiff, Nat.reduceAdd, Nat.reduceLeDiff, w64 (x := a.played + b.played) (by omega) (by omega), w64 (x := a.wins + b.wins) (by omega) (by omega), w64 (x := a.draws + b.draws) (by omega) (by omega), w64 (x := a.losses + b.losses) (by omega) (by omega), w64 (x := a.scored + b.scored) (by omega) (by omega), w64 (x := a.against + b.against) (by omega) (by omega), w64 (x := a.points + b.points) (by omega) (by omega)]
  exact finK_row (addRow a b) ⟨rfl, rfl⟩

theorem specDifferenceOf (r : Row) (h : r.Sm 1000000000) : AFunD Tryz.prog F.spec_DifferenceOf [dRow r] (DV (vInt (r.scored - r.against))) := by
  obtain ⟨a1, a2, a3, a4, a5, a6, a7⟩ := h
  refine AFunD.intro k_spec_DifferenceOf (by simp) ?pure ?_
  case pure => first | exact D.pure_v _ | exact D.pure_vs _
  unfold c_spec_DifferenceOf
  simp only [argE, Nat.reduceAdd]
  simp only [dRow, eRow]
  simp -implicitDefEqProofs only [go_sem, ↓reduceIte, Nat.reduceEqDiff, Nat.reduceAdd, Nat.reduceLeDiff, w64 (x := r.scored - r.against) (by omega) (by omega)]
  exact finK_v ⟨rfl, rfl⟩
theorem implDifferenceOf (r : Row) (h : r.Sm 1000000000) : AFunD Tryz.prog F.impl_DifferenceOf [dRow r] (DV (vInt (r.scored - r.against))) := by
  obtain ⟨a1, a2, a3, a4, a5, a6, a7⟩ := h
  refine AFunD.intro k_impl_DifferenceOf (by simp) ?pure ?_
  case pure => first | exact D.pure_v _ | exact D.pure_vs _
  unfold c_impl_DifferenceOf
  simp only [argE, Nat.reduceAdd]
  simp only [dRow, eRow]
  simp -implicitDefEqProofs only [go_sem, ↓reduceIte, Nat.reduceEqDiff, Nat.reduceAdd, Nat.reduceLeDiff, w64 (x := r.scored - r.against) (by omega) (by omega)]
  exact finK_v ⟨rfl, rfl⟩

end Go.Proofs.YtneiicadhjdbiaaGreat.Ab

namespace Go.Proofs.YtneiicadhjdbiaaGreat.Ab
open Go

def teamsOk (n : Nat) (l : List Int) : Bool := (List.range l.length).all fun i => (l[i]?).all fun t => inB t 0 (n - 1)

theorem specTeams (b : Book) (l : List Int) (hn : b.field.length < 4611686018427387904) (hl : l.length < 4611686018427387904) : AFunD Tryz.prog F.spec_l07Teams [dBook b, DV (vInts l)] (DV (.bool (teamsOk b.field.length l))) := by
  refine AFunD.intro k_spec_l07Teams (by simp) ?pure ?_
  case pure => first | exact D.pure_v _ | exact D.pure_vs _
  unfold c_spec_l07Teams
  simp only [argE, Nat.reduceAdd]
  simp only [dBook, vInts]
  simp -implicitDefEqProofs only [go_sem, ↓reduceIte, Nat.reduceEqDiff, Nat.reduceAdd, Nat.reduceLeDiff]
  refine loop_st (S := Nat) (fun i => [(2, DC (.ptr 0 0)), (7, DV (vInts l)), (8, DV (vInt l.length)), (9, DV (vInt i))]) (fun _ => [.cells ((eBook b).map .v)]) (fun i => l.length - i) (fun i => i ≤ l.length ∧ ((List.range i).all fun i => (l[i]?).all fun t => inB t 0 (b.field.length - 1)) = true) 0 (Nat.zero_le _)
    ⟨rfl, rfl, rfl, rfl, trivial⟩ rfl ⟨Nat.zero_le _, rfl⟩ ?_
  rintro i ⟨hi, hp⟩
  simp only [eBook, eRules]
  simp -implicitDefEqProofs only [go_sem, ↓reduceIte, Nat.reduceEqDiff, Nat.reduceAdd, Nat.reduceLeDiff, vInts, vInt]
  refine condA_dec (fun h => ?_) (fun h => ?_)
  · have hlt : i < l.length := by omega
    simp -implicitDefEqProofs only [go_sem, ↓reduceIte, Nat.reduceEqDiff, Nat.reduceAdd, Nat.reduceLeDiff, List.getElem?_eq_getElem hlt, vTeams, w64 (x := (b.field.length : Int) - 1) (by omega) (by omega)]
    refine (l01In l[i] 0 (b.field.length - 1)).callp (.v _ (.v _ (.v _ .nil))) ?_
    cases h1 : inB l[i] 0 (b.field.length - 1)
    · simp -implicitDefEqProofs only [go_sem, ↓reduceIte, Nat.reduceEqDiff, Nat.reduceAdd, Nat.reduceLeDiff]
      exact finK_v ⟨by rw [teamsOk, all_range_false hlt (by rw [List.getElem?_eq_getElem hlt, Option.all_some, h1])], rfl⟩
    · simp -implicitDefEqProofs only [go_sem, ↓reduceIte, Nat.reduceEqDiff, Nat.reduceAdd, Nat.reduceLeDiff, w64s (show i < 4611686018427387904 by omega)]
      exact next_of (i + 1) (by omega) ⟨by omega, by rw [all_range_succ, hp, List.getElem?_eq_getElem hlt, Option.all_some, h1]; rfl⟩ (Nat.zero_le _) ⟨rfl, rfl, rfl, rfl, trivial⟩ rfl
  · simp -implicitDefEqProofs only [go_sem, ↓reduceIte, Nat.reduceEqDiff, Nat.reduceAdd, Nat.reduceLeDiff]
    have : i = l.length := by omega
    subst this
    exact finK_v ⟨by rw [teamsOk, hp], rfl⟩

end Go.Proofs.YtneiicadhjdbiaaGreat.Ab

namespace Go.Proofs.YtneiicadhjdbiaaGreat.Ab
open Go

theorem cOf_split {α : Type} (f : α → List V) (sz : Nat) (hf : ∀ x, (f x).length = sz) (l : List α) (i : Nat) (hi : i < l.length) :
    cOf f l = cOf f (l.take i) ++ ((f l[i]).map .v ++ cOf f (l.drop (i + 1))) ∧ (cOf f (l.take i)).length = i * sz := by
  refine ⟨?_, by rw [flat_len f sz hf, List.length_take, Nat.min_eq_left (by omega)]⟩
  have : l = l.take i ++ ([l[i]] ++ l.drop (i + 1)) := by simp
  conv => lhs; rw [this]
  rw [cOf_append, cOf_append, cOf_one]

theorem cOf_get {α : Type} (f : α → List V) (sz : Nat) (hf : ∀ x, (f x).length = sz) (l : List α) (i : Nat) (hi : i < l.length) : ((cOf f l).drop (i * sz)).take sz = (f l[i]).map .v := by
  obtain ⟨h1, h2⟩ := cOf_split f sz hf l i hi
  rw [h1, ← h2, List.drop_left, List.take_left' (by simp [hf])]

theorem cOf_put {α : Type} (f : α → List V) (sz : Nat) (hf : ∀ x, (f x).length = sz) (l : List α) (i : Nat) (hi : i < l.length) (y : α) : putCells (cOf f l) (i * sz) ((f y).map .v) = cOf f (l.set i y) := by
  obtain ⟨h1, h2⟩ := cOf_split f sz hf l i hi
  rw [h1, ← h2, putCells_at _ _ _ _ (by simp [hf])]
  have hi' : i < (l.set i y).length := by simpa using hi
  obtain ⟨h3, _⟩ := cOf_split f sz hf (l.set i y) i hi'
  rw [h3]
  simp [List.take_set_of_le, List.drop_set_of_lt]

/-- An element of an own slice is read. -/
theorem rdm_elem {α : Type} (f : α → List V) (sz : Nat) (hf : ∀ x, (f x).length = sz) {m : List Blk} {id : Nat} {l : List α} (hm : m[id]? = some (.cells (cOf f l))) (i : Nat) (hi : i < l.length) : rdm m id (i * sz) sz = some ((f l[i]).map .v) := by
  unfold rdm
  rw [hm]
  simp only
  rw [if_pos (by rw [flat_len f sz hf]; exact lt_mul_of hi), cOf_get f sz hf l i hi]

/-- An element of an own slice is written. -/
theorem wrm_elem {α : Type} (f : α → List V) (sz : Nat) (hf : ∀ x, (f x).length = sz) {m : List Blk} {id : Nat} {l : List α} (hm : m[id]? = some (.cells (cOf f l))) (i : Nat) (hi : i < l.length) (y : α) : wrm m id (i * sz) sz ((f y).map .v) = some (m.set id (.cells (cOf f (l.set i y)))) := by
  rw [wrm_of m id (i * sz) sz _ _ hm (by simp [hf]) (by rw [flat_len f sz hf]; exact lt_mul_of hi), cOf_put f sz hf l i hi]

end Go.Proofs.YtneiicadhjdbiaaGreat.Ab

namespace Go.Proofs.YtneiicadhjdbiaaGreat.Ab
open Go

def rowX (u : Rules) (p : Int × Int × Bool) : Row := if outcome p = 1 then ⟨1, 1, 0, 0, p.1, p.2.1, u.win⟩ else if outcome p = 2 then ⟨1, 0, 1, 0, p.1, p.2.1, u.draw⟩ else ⟨1, 0, 0, 1, p.1, p.2.1, u.loss⟩
def rowY (u : Rules) (p : Int × Int × Bool) : Row := if outcome p = 1 then ⟨1, 0, 0, 1, p.2.1, p.1, u.loss⟩ else if outcome p = 2 then ⟨1, 0, 1, 0, p.2.1, p.1, u.draw⟩ else ⟨1, 1, 0, 0, p.2.1, p.1, u.win⟩

/-- The table with one more game. -/
def addGame (u : Rules) (rows : List Row) (g : Game) : List Row :=
  if (goals g).2.2 = true then
    let r1 := rows.modify g.home.toNat fun r => addRow r (rowX u (goals g))
    r1.modify g.away.toNat fun r => addRow r (rowY u (goals g))
  else rows

theorem l06AddNo (u : Rules) (rows : List Row) (g : Game) (hok : (goals g).2.2 = false) :
    AFun Tryz.prog F.spec_l06Add [dRules u, DC (.sl 7 0 0 rows.length), dGame g] [.cells (cOf eRow rows)] fun d m => d = .tup [] ∧ m = [.cells (cOf eRow (addGame u rows g))] := by
  have e1 : addGame u rows g = rows := by rw [addGame, hok]; rfl
  rw [e1]
  refine AFun.intro k_spec_l06Add (by simp) ?_
  unfold c_spec_l06Add
  simp only [argE, Nat.reduceAdd]
  simp only [dRules, eRules, dGame, eGame]
  simp -implicitDefEqProofs only [go_sem, ↓reduceIte, Nat.reduceEqDiff, Nat.reduceAdd, Nat.reduceLeDiff]
  refine (specGoalsOf g).callp (.vs (eGame g) .nil) ?_
  generalize hg : goals g = gg at hok ⊢
  obtain ⟨p, q, c⟩ := gg
  simp only at hok
  subst hok
  simp -implicitDefEqProofs only [go_sem, ↓reduceIte, Nat.reduceEqDiff, Nat.reduceAdd, Nat.reduceLeDiff, dGoals]
  refine ⟨_, _, WkD.drop (mem := [.cells (cOf eRow rows)]) (WfM.data fun x hx => ?_) (leD_id _) trivial, rfl, rfl⟩
  simp only [List.mem_cons, List.not_mem_nil, or_false] at hx; subst hx; exact cOf_data _ _

end Go.Proofs.YtneiicadhjdbiaaGreat.Ab

namespace Go.Proofs.YtneiicadhjdbiaaGreat.Ab
open Go

theorem l06AddYes (u : Rules) (rows : List Row) (g : Game) (i j : Nat) (hi : g.home = i) (hj : g.away = j) (hil : i < rows.length) (hjl : j < rows.length) (hij : i ≠ j) (hok : (goals g).2.2 = true)
    (hs : ∀ r ∈ rows, r.Sm 100000000) (hx : (rowX u (goals g)).Sm 1000) (hy : (rowY u (goals g)).Sm 1000) :
    AFun Tryz.prog F.spec_l06Add [dRules u, DC (.sl 7 0 0 rows.length), dGame g] [.cells (cOf eRow rows)] fun d m => d = .tup [] ∧ m = [.cells (cOf eRow ((rows.set i (addRow rows[i] (rowX u (goals g)))).set j (addRow rows[j] (rowY u (goals g)))))] := by
  have sm : ∀ {r : Row} {k l : Int}, r.Sm k → k ≤ l → r.Sm l := fun h hl => ⟨⟨h.1.1, Int.le_trans h.1.2 hl⟩, ⟨h.2.1, Int.le_trans h.2.2 hl⟩, ⟨h.3.1, Int.le_trans h.3.2 hl⟩, ⟨h.4.1, Int.le_trans h.4.2 hl⟩, ⟨h.5.1, Int.le_trans h.5.2 hl⟩, ⟨h.6.1, Int.le_trans h.6.2 hl⟩, ⟨h.7.1, Int.le_trans h.7.2 hl⟩⟩
  obtain ⟨gh, ga, ghg, gag, gst⟩ := g
  simp only at hi hj
  subst hi; subst hj
  generalize hg : goals ⟨i, j, ghg, gag, gst⟩ = gg at hok hx hy ⊢
  obtain ⟨p, q, c⟩ := gg
  simp only at hok
  subst hok
  have s1 := sm (hs _ (List.getElem_mem hil)) (show (100000000 : Int) ≤ 1000000000 by omega)
  have s2 := sm (hs _ (List.getElem_mem hjl)) (show (100000000 : Int) ≤ 1000000000 by omega)
  have s3 := sm hx (show (1000 : Int) ≤ 1000000000 by omega)
  have s4 := sm hy (show (1000 : Int) ≤ 1000000000 by omega)
  have li := lt_mul_of (sz := 7) hil
  have lj := lt_mul_of (sz := 7) hjl
  have gi := cOf_get eRow 7 (fun _ => rfl) rows i hil
  have pi := cOf_put eRow 7 (fun _ => rfl) rows i hil (addRow rows[i] (rowX u (p, q, true)))
  have hjl' : j < (rows.set i (addRow rows[i] (rowX u (p, q, true)))).length := by simpa using hjl
  have gj := cOf_get eRow 7 (fun _ => rfl) (rows.set i (addRow rows[i] (rowX u (p, q, true)))) j hjl'
  have e2 : (rows.set i (addRow rows[i] (rowX u (p, q, true))))[j] = rows[j] := List.getElem_set_ne hij hjl'
  rw [e2] at gj
  have pj := cOf_put eRow 7 (fun _ => rfl) (rows.set i (addRow rows[i] (rowX u (p, q, true)))) j hjl' (addRow rows[j] (rowY u (p, q, true)))
  refine AFun.intro k_spec_l06Add (by simp) ?_
  unfold c_spec_l06Add
  simp only [argE, Nat.reduceAdd]
  simp only [dRules, eRules, dGame, eGame]
  simp -implicitDefEqProofs only [go_sem, ↓reduceIte, Nat.reduceEqDiff, Nat.reduceAdd, Nat.reduceLeDiff]
  refine (specGoalsOf ⟨i, j, ghg, gag, gst⟩).callp (.vs (eGame ⟨i, j, ghg, gag, gst⟩) .nil) ?_
  rw [hg]
  simp -implicitDefEqProofs only [go_sem, ↓reduceIte, Nat.reduceEqDiff, Nat.reduceAdd, Nat.reduceLeDiff, dGoals]
  refine (specOutcomeOf ⟨i, j, ghg, gag, gst⟩).callp (.vs (eGame ⟨i, j, ghg, gag, gst⟩) .nil) ?_
  rw [hg]
  have h123 : outcome (p, q, true) = 1 ∨ outcome (p, q, true) = 2 ∨ outcome (p, q, true) = 3 := by
    simp only [outcome]
    split
    · rename_i h; cases h
    · split
      · exact .inl rfl
      · split
        · exact .inr (.inl rfl)
        · exact .inr (.inr rfl)
  rcases h123 with h1 | h1 | h1
  · have hX : rowX u (p, q, true) = ⟨1, 1, 0, 0, p, q, u.win⟩ := by rw [rowX, if_pos h1]
    have hY : rowY u (p, q, true) = ⟨1, 0, 0, 1, q, p, u.loss⟩ := by rw [rowY, if_pos h1]
    rw [hX] at s3
    rw [hY] at s4
    simp -implicitDefEqProofs only [go_sem, ↓reduceIte, Nat.reduceEqDiff, Nat.reduceAdd, Nat.reduceLeDiff, h1, Int.reduceEq]
    refine ⟨by omega, ?_⟩
    rw [if_pos (by rw [flat_len eRow 7 (fun _ => rfl)]; omega), Nat.zero_add, gi]
    simp -implicitDefEqProofs only [go_sem, ↓reduceIte, Nat.reduceEqDiff, Nat.reduceAdd, Nat.reduceLeDiff]
    refine (specAddRows rows[i] ⟨1, 1, 0, 0, p, q, u.win⟩ s1 s3).callp (.vs _ (.vs (eRow ⟨1, 1, 0, 0, p, q, u.win⟩) .nil)) ?_
    simp -implicitDefEqProofs only [go_sem, ↓reduceIte, Nat.reduceEqDiff, Nat.reduceAdd, Nat.reduceLeDiff, dRow]
    refine ⟨by omega, ?_⟩
    rw [if_pos (by rw [flat_len eRow 7 (fun _ => rfl)]; omega), Nat.zero_add, ← hX, pi]
    simp -implicitDefEqProofs only [go_sem, ↓reduceIte, Nat.reduceEqDiff, Nat.reduceAdd, Nat.reduceLeDiff]
    refine ⟨by omega, ?_⟩
    rw [if_pos (by rw [flat_len eRow 7 (fun _ => rfl), List.length_set]; omega), Nat.zero_add, gj]
    simp -implicitDefEqProofs only [go_sem, ↓reduceIte, Nat.reduceEqDiff, Nat.reduceAdd, Nat.reduceLeDiff]
    refine (specAddRows rows[j] ⟨1, 0, 0, 1, q, p, u.loss⟩ s2 s4).callp (.vs _ (.vs (eRow ⟨1, 0, 0, 1, q, p, u.loss⟩) .nil)) ?_
    simp -implicitDefEqProofs only [go_sem, ↓reduceIte, Nat.reduceEqDiff, Nat.reduceAdd, Nat.reduceLeDiff, dRow]
    refine ⟨by omega, ?_⟩
    rw [if_pos (by rw [flat_len eRow 7 (fun _ => rfl), List.length_set]; omega), Nat.zero_add, ← hY, pj]
    simp -implicitDefEqProofs only [go_sem, ↓reduceIte, Nat.reduceEqDiff, Nat.reduceAdd, Nat.reduceLeDiff]
    refine ⟨_, _, WkD.drop (mem := [.cells (cOf eRow ((rows.set i (addRow rows[i] (rowX u (p, q, true)))).set j (addRow rows[j] (rowY u (p, q, true)))))]) (WfM.data fun x hx => ?_) (leD_id _) trivial, rfl, rfl⟩
    simp only [List.mem_cons, List.not_mem_nil, or_false] at hx; subst hx; exact cOf_data _ _
  · have hX : rowX u (p, q, true) = ⟨1, 0, 1, 0, p, q, u.draw⟩ := by rw [rowX, h1]; rfl
    have hY : rowY u (p, q, true) = ⟨1, 0, 1, 0, q, p, u.draw⟩ := by rw [rowY, h1]; rfl
    rw [hX] at s3
    rw [hY] at s4
    simp -implicitDefEqProofs only [go_sem, ↓reduceIte, Nat.reduceEqDiff, Nat.reduceAdd, Nat.reduceLeDiff, h1, Int.reduceEq]
    refine ⟨by omega, ?_⟩
    rw [if_pos (by rw [flat_len eRow 7 (fun _ => rfl)]; omega), Nat.zero_add, gi]
    simp -implicitDefEqProofs only [go_sem, ↓reduceIte, Nat.reduceEqDiff, Nat.reduceAdd, Nat.reduceLeDiff]
    refine (specAddRows rows[i] ⟨1, 0, 1, 0, p, q, u.draw⟩ s1 s3).callp (.vs _ (.vs (eRow ⟨1, 0, 1, 0, p, q, u.draw⟩) .nil)) ?_
    simp -implicitDefEqProofs only [go_sem, ↓reduceIte, Nat.reduceEqDiff, Nat.reduceAdd, Nat.reduceLeDiff, dRow]
    refine ⟨by omega, ?_⟩
    rw [if_pos (by rw [flat_len eRow 7 (fun _ => rfl)]; omega), Nat.zero_add, ← hX, pi]
    simp -implicitDefEqProofs only [go_sem, ↓reduceIte, Nat.reduceEqDiff, Nat.reduceAdd, Nat.reduceLeDiff]
    refine ⟨by omega, ?_⟩
    rw [if_pos (by rw [flat_len eRow 7 (fun _ => rfl), List.length_set]; omega), Nat.zero_add, gj]
    simp -implicitDefEqProofs only [go_sem, ↓reduceIte, Nat.reduceEqDiff, Nat.reduceAdd, Nat.reduceLeDiff]
    refine (specAddRows rows[j] ⟨1, 0, 1, 0, q, p, u.draw⟩ s2 s4).callp (.vs _ (.vs (eRow ⟨1, 0, 1, 0, q, p, u.draw⟩) .nil)) ?_
    simp -implicitDefEqProofs only [go_sem, ↓reduceIte, Nat.reduceEqDiff, Nat.reduceAdd, Nat.reduceLeDiff, dRow]
    refine ⟨by omega, ?_⟩
    rw [if_pos (by rw [flat_len eRow 7 (fun _ => rfl), List.length_set]; omega), Nat.zero_add, ← hY, pj]
    simp -implicitDefEqProofs only [go_sem, ↓reduceIte, Nat.reduceEqDiff, Nat.reduceAdd, Nat.reduceLeDiff]
    refine ⟨_, _, WkD.drop (mem := [.cells (cOf eRow ((rows.set i (addRow rows[i] (rowX u (p, q, true)))).set j (addRow rows[j] (rowY u (p, q, true)))))]) (WfM.data fun x hx => ?_) (leD_id _) trivial, rfl, rfl⟩
    simp only [List.mem_cons, List.not_mem_nil, or_false] at hx; subst hx; exact cOf_data _ _
  · have hX : rowX u (p, q, true) = ⟨1, 0, 0, 1, p, q, u.loss⟩ := by rw [rowX, h1]; rfl
    have hY : rowY u (p, q, true) = ⟨1, 1, 0, 0, q, p, u.win⟩ := by rw [rowY, h1]; rfl
    rw [hX] at s3
    rw [hY] at s4
    simp -implicitDefEqProofs only [go_sem, ↓reduceIte, Nat.reduceEqDiff, Nat.reduceAdd, Nat.reduceLeDiff, h1, Int.reduceEq]
    refine ⟨by omega, ?_⟩
    rw [if_pos (by rw [flat_len eRow 7 (fun _ => rfl)]; omega), Nat.zero_add, gi]
    simp -implicitDefEqProofs only [go_sem, ↓reduceIte, Nat.reduceEqDiff, Nat.reduceAdd, Nat.reduceLeDiff]
    refine (specAddRows rows[i] ⟨1, 0, 0, 1, p, q, u.loss⟩ s1 s3).callp (.vs _ (.vs (eRow ⟨1, 0, 0, 1, p, q, u.loss⟩) .nil)) ?_
    simp -implicitDefEqProofs only [go_sem, ↓reduceIte, Nat.reduceEqDiff, Nat.reduceAdd, Nat.reduceLeDiff, dRow]
    refine ⟨by omega, ?_⟩
    rw [if_pos (by rw [flat_len eRow 7 (fun _ => rfl)]; omega), Nat.zero_add, ← hX, pi]
    simp -implicitDefEqProofs only [go_sem, ↓reduceIte, Nat.reduceEqDiff, Nat.reduceAdd, Nat.reduceLeDiff]
    refine ⟨by omega, ?_⟩
    rw [if_pos (by rw [flat_len eRow 7 (fun _ => rfl), List.length_set]; omega), Nat.zero_add, gj]
    simp -implicitDefEqProofs only [go_sem, ↓reduceIte, Nat.reduceEqDiff, Nat.reduceAdd, Nat.reduceLeDiff]
    refine (specAddRows rows[j] ⟨1, 1, 0, 0, q, p, u.win⟩ s2 s4).callp (.vs _ (.vs (eRow ⟨1, 1, 0, 0, q, p, u.win⟩) .nil)) ?_
    simp -implicitDefEqProofs only [go_sem, ↓reduceIte, Nat.reduceEqDiff, Nat.reduceAdd, Nat.reduceLeDiff, dRow]
    refine ⟨by omega, ?_⟩
    rw [if_pos (by rw [flat_len eRow 7 (fun _ => rfl), List.length_set]; omega), Nat.zero_add, ← hY, pj]
    simp -implicitDefEqProofs only [go_sem, ↓reduceIte, Nat.reduceEqDiff, Nat.reduceAdd, Nat.reduceLeDiff]
    refine ⟨_, _, WkD.drop (mem := [.cells (cOf eRow ((rows.set i (addRow rows[i] (rowX u (p, q, true)))).set j (addRow rows[j] (rowY u (p, q, true)))))]) (WfM.data fun x hx => ?_) (leD_id _) trivial, rfl, rfl⟩
    simp only [List.mem_cons, List.not_mem_nil, or_false] at hx; subst hx; exact cOf_data _ _

end Go.Proofs.YtneiicadhjdbiaaGreat.Ab

namespace Go.Proofs.YtneiicadhjdbiaaGreat.Ab
open Go

theorem handT {P : Program} {m : List Blk} {K : D → List Blk → Prop} {f i sz len : Nat} {a c : T} {ys ys' : List V} (ha : a.pure) (hc : c.pure) (h : AFun P f [.t a, DC (.sl sz 0 0 len), .t c] [.cells (ys.map .v)] fun d m => d = .tup [] ∧ m = [.cells (ys'.map .v)])
    (hm : m[i]? = some (.cells (ys.map .v))) (hk : K (.tup []) (m.set i (.cells (ys'.map .v)))) : AFunG P false f [.t a, DC (.sl sz i 0 len), .t c] m K := by
  refine AFunG.hand (br := false) [i] h (by simp) rfl (fun j b' hj => ?_) ⟨VwM.ren (pure_leT ha) (pure_lt ha), VwM.ren (show LeD _ (DC (.sl sz 0 0 len)) _ from .inr rfl) (show 0 < 1 from Nat.zero_lt_one), VwM.ren (pure_leT hc) (pure_lt hc), trivial⟩ (fun d m1 hd hl => ⟨fun h => (by cases h), ?_⟩)
  · cases j with
    | zero => cases hj; exact ⟨_, hm, ltCs_vs ys, leCs_vs ys⟩
    | succ j => simp at hj
  · obtain ⟨rfl, rfl⟩ := hd
    show K (.tup []) (setB m [i] [renB _ (.cells (ys'.map .v))] ++ [])
    simp only [setB, renB, renC_vs, List.append_nil]
    exact hk

end Go.Proofs.YtneiicadhjdbiaaGreat.Ab

namespace Go.Proofs.YtneiicadhjdbiaaGreat.Ab
open Go

def zeroRow : Row := ⟨0, 0, 0, 0, 0, 0, 0⟩
/-- One game, put on a table. -/
def addGame' (u : Rules) (rows : List Row) (g : Game) : List Row :=
  if (goals g).2.2 = true then
    (rows.set g.home.toNat (addRow (rows.getD g.home.toNat zeroRow) (rowX u (goals g)))).set g.away.toNat (addRow (rows.getD g.away.toNat zeroRow) (rowY u (goals g)))
  else rows

theorem addGame'_len (u : Rules) (rows : List Row) (g : Game) : (addGame' u rows g).length = rows.length := by
  unfold addGame'; split <;> simp

theorem l06Add (u : Rules) (rows : List Row) (g : Game) (hok : gameOk rows.length g = true) (hr : rulesOk u = true) (hs : ∀ r ∈ rows, r.Sm 100000000) (hx : (goals g).2.2 = true → (rowX u (goals g)).Sm 1000 ∧ (rowY u (goals g)).Sm 1000) :
    AFun Tryz.prog F.spec_l06Add [dRules u, DC (.sl 7 0 0 rows.length), dGame g] [.cells (cOf eRow rows)] fun d m => d = .tup [] ∧ m = [.cells (cOf eRow (addGame' u rows g))] := by
  by_cases h : (goals g).2.2 = true
  · simp only [gameOk, Bool.and_eq_true, inB_iff, Bool.not_eq_true', decide_eq_false_iff_not] at hok
    obtain ⟨⟨⟨⟨⟨a1, a2⟩, a3⟩, a4⟩, a5⟩, _⟩ := hok
    have hi : g.home = (g.home.toNat : Int) := by omega
    have hj : g.away = (g.away.toNat : Int) := by omega
    have hil : g.home.toNat < rows.length := by omega
    have hjl : g.away.toNat < rows.length := by omega
    have := l06AddYes u rows g g.home.toNat g.away.toNat hi hj hil hjl (by omega) h hs (hx h).1 (hx h).2
    have e : addGame' u rows g = (rows.set g.home.toNat (addRow rows[g.home.toNat] (rowX u (goals g)))).set g.away.toNat (addRow rows[g.away.toNat] (rowY u (goals g))) := by
      rw [addGame', if_pos h]; simp [hil, hjl]
    rw [e]; exact this
  · have h' : (goals g).2.2 = false := by simpa using h
    have := l06AddNo u rows g h'
    have e1 : addGame u rows g = rows := by rw [addGame, h']; rfl
    have e2 : addGame' u rows g = rows := by rw [addGame', h']; rfl
    rw [e1] at this; rw [e2]; exact this

end Go.Proofs.YtneiicadhjdbiaaGreat.Ab

namespace Go.Proofs.YtneiicadhjdbiaaGreat.Ab
open Go

theorem goals_small {u : Rules} {n : Int} {g : Game} (hok : gameOk n g = true) (hr : rulesOk u = true) : (rowX u (goals g)).Sm 1000 ∧ (rowY u (goals g)).Sm 1000 := by
  simp only [rulesOk, Bool.and_eq_true, inB_iff] at hr
  obtain ⟨⟨⟨⟨r1, r2⟩, r3⟩, _⟩, _⟩ := hr
  simp only [gameOk, Bool.and_eq_true, inB_iff] at hok
  obtain ⟨_, hg⟩ := hok
  have hb : (0 ≤ (goals g).1 ∧ (goals g).1 ≤ 99) ∧ 0 ≤ (goals g).2.1 ∧ (goals g).2.1 ≤ 99 := by
    unfold goals
    split
    · rename_i h; rw [if_pos h] at hg
      simp only [Bool.and_eq_true, inB_iff] at hg
      exact ⟨⟨hg.1.1, hg.1.2⟩, hg.2.1, hg.2.2⟩
    · split
      · exact ⟨⟨by decide, by decide⟩, by decide, by decide⟩
      · split
        · exact ⟨⟨by decide, by decide⟩, by decide, by decide⟩
        · exact ⟨⟨by decide, by decide⟩, by decide, by decide⟩
  obtain ⟨⟨b1, b2⟩, b3, b4⟩ := hb
  unfold rowX rowY
  constructor
  · split
    · exact ⟨by simp, by simp, by simp, by simp, by simp only; omega, by simp only; omega, by simp only; omega⟩
    · split
      · exact ⟨by simp, by simp, by simp, by simp, by simp only; omega, by simp only; omega, by simp only; omega⟩
      · exact ⟨by simp, by simp, by simp, by simp, by simp only; omega, by simp only; omega, by simp only; omega⟩
  · split
    · exact ⟨by simp, by simp, by simp, by simp, by simp only; omega, by simp only; omega, by simp only; omega⟩
    · split
      · exact ⟨by simp, by simp, by simp, by simp, by simp only; omega, by simp only; omega, by simp only; omega⟩
      · exact ⟨by simp, by simp, by simp, by simp, by simp only; omega, by simp only; omega, by simp only; omega⟩

theorem addRow_sm {a b : Row} {k l : Int} (ha : a.Sm k) (hb : b.Sm l) : (addRow a b).Sm (k + l) := by
  obtain ⟨a1, a2, a3, a4, a5, a6, a7⟩ := ha
  obtain ⟨b1, b2, b3, b4, b5, b6, b7⟩ := hb
  exact ⟨by simp only [addRow]; omega, by simp only [addRow]; omega, by simp only [addRow]; omega, by simp only [addRow]; omega, by simp only [addRow]; omega, by simp only [addRow]; omega, by simp only [addRow]; omega⟩

theorem Row.Sm.mono {r : Row} {k l : Int} (h : r.Sm k) (hl : k ≤ l) : r.Sm l :=
  ⟨⟨h.1.1, Int.le_trans h.1.2 hl⟩, ⟨h.2.1, Int.le_trans h.2.2 hl⟩, ⟨h.3.1, Int.le_trans h.3.2 hl⟩, ⟨h.4.1, Int.le_trans h.4.2 hl⟩, ⟨h.5.1, Int.le_trans h.5.2 hl⟩, ⟨h.6.1, Int.le_trans h.6.2 hl⟩, ⟨h.7.1, Int.le_trans h.7.2 hl⟩⟩

theorem zeroRow_sm {k : Int} (h : 0 ≤ k) : zeroRow.Sm k := ⟨⟨by decide, h⟩, ⟨by decide, h⟩, ⟨by decide, h⟩, ⟨by decide, h⟩, ⟨by decide, h⟩, ⟨by decide, h⟩, ⟨by decide, h⟩⟩

theorem getD_sm {rows : List Row} {k : Int} (hk : 0 ≤ k) (hs : ∀ r ∈ rows, r.Sm k) (i : Nat) : (rows.getD i zeroRow).Sm k := by
  by_cases h : i < rows.length
  · simp only [List.getD_eq_getElem?_getD, List.getElem?_eq_getElem h, Option.getD_some]; exact hs _ (List.getElem_mem h)
  · simp only [List.getD_eq_getElem?_getD, List.getElem?_eq_none (Nat.le_of_not_lt h), Option.getD_none]; exact zeroRow_sm hk

theorem addGame'_sm {u : Rules} {rows : List Row} {g : Game} {k : Int} (hk : 0 ≤ k) (hs : ∀ r ∈ rows, r.Sm k) (hx : (rowX u (goals g)).Sm 1000 ∧ (rowY u (goals g)).Sm 1000) : ∀ r ∈ addGame' u rows g, r.Sm (k + 1000) := by
  intro r hr
  unfold addGame' at hr
  split at hr
  · rcases List.mem_or_eq_of_mem_set hr with h | rfl
    · rcases List.mem_or_eq_of_mem_set h with h | rfl
      · exact (hs r h).mono (by omega)
      · exact addRow_sm (getD_sm hk hs _) hx.1
    · exact addRow_sm (getD_sm hk hs _) hx.2
  · exact (hs r hr).mono (by omega)

end Go.Proofs.YtneiicadhjdbiaaGreat.Ab

namespace Go.Proofs.YtneiicadhjdbiaaGreat.Ab
open Go

def tableBy (u : Rules) (n : Nat) (p : Game → Bool) (games : List Game) : List Row := games.foldl (fun rows g => if p g = true then addGame' u rows g else rows) (List.replicate n zeroRow)

theorem manyC_rows (n : Nat) : manyC n ((eRow zeroRow).map .v) = cOf eRow (List.replicate n zeroRow) := by
  induction n with
  | zero => rfl
  | succ n ih => rw [manyC, ih, List.replicate_succ, show zeroRow :: List.replicate n zeroRow = [zeroRow] ++ List.replicate n zeroRow from rfl, cOf_append, cOf_one]

theorem tableBy_succ (u : Rules) (n : Nat) (p : Game → Bool) (games : List Game) (i : Nat) (hi : i < games.length) : tableBy u n p (games.take (i + 1)) = if p games[i] = true then addGame' u (tableBy u n p (games.take i)) games[i] else tableBy u n p (games.take i) := by
  rw [tableBy, List.take_succ_eq_append_getElem hi, List.foldl_append]; rfl

theorem tableBy_len (u : Rules) (n : Nat) (p : Game → Bool) (games : List Game) : (tableBy u n p games).length = n := by
  unfold tableBy
  have : ∀ (l : List Game) (rows : List Row), (l.foldl (fun rows g => if p g = true then addGame' u rows g else rows) rows).length = rows.length := by
    intro l
    induction l with
    | nil => intro rows; rfl
    | cons g r ih =>
      intro rows
      rw [List.foldl_cons, ih]
      split
      · exact addGame'_len u rows g
      · rfl
  rw [this]; simp

end Go.Proofs.YtneiicadhjdbiaaGreat.Ab

namespace Go.Proofs.YtneiicadhjdbiaaGreat.Ab
open Go

def inGroup (group : List Int) (all : Bool) (g : Game) : Bool := all || (has group g.home && has group g.away)

theorem l06Among (u : Rules) (n : Nat) (games : List Game) (group : List Int) (all : Bool) (hn : n ≤ 1048576) (hg : games.length ≤ 1000) (hgr : group.length < 4611686018427387904) (hok : ∀ g ∈ games, gameOk n g = true) (hr : rulesOk u = true) :
    AFun Tryz.prog F.spec_l06Among [dRules u, DV (vInt n), DV (vGames games), DV (vInts group), DV (.bool all)] [] fun d m => d = DC (.sl 7 0 0 n) ∧ m = [.cells (cOf eRow (tableBy u n (inGroup group all) games))] := by
  let T (i : Nat) : List Row := tableBy u n (inGroup group all) (games.take i)
  have hT : ∀ i, (T i).length = n := fun i => tableBy_len _ _ _ _
  have hsm : ∀ i, i ≤ games.length → ∀ r ∈ T i, r.Sm (1000 * i : Nat) := by
    intro i
    induction i with
    | zero => intro _ r hr; simp only [T, tableBy, List.take_zero, List.foldl_nil] at hr; rw [List.eq_of_mem_replicate hr]; exact zeroRow_sm (by simp)
    | succ i ih =>
      intro hi r hr'
      have hlt : i < games.length := hi
      simp only [T] at hr'
      rw [tableBy_succ _ _ _ _ _ hlt] at hr'
      split at hr'
      · have := addGame'_sm (by omega) (ih (by omega)) (goals_small (hok _ (List.getElem_mem hlt)) hr) r hr'
        exact this.mono (by omega)
      · exact (ih (by omega) r hr').mono (by omega)
  refine AFun.intro k_spec_l06Among (by simp) ?_
  unfold c_spec_l06Among
  simp only [argE, Nat.reduceAdd]
  simp only [dRules, eRules, vGames]
  simp -implicitDefEqProofs only [go_sem, ↓reduceIte, Nat.reduceEqDiff, Nat.reduceAdd, Nat.reduceLeDiff]
  refine ⟨Int.le_refl _, by omega, by omega, ?_⟩
  refine loop_st (S := Nat) (fun i => [(5, DC (.ptr 0 0)), (4, DV (.bool all)), (3, DV (vInts group)), (11, DC (.sl 7 1 0 n)), (16, DV (vGames games)), (17, DV (vInt games.length)), (18, DV (vInt i))]) (fun i => [.cells ((eRules u).map .v), .cells (cOf eRow (T i))]) (fun i => games.length - i) (fun i => i ≤ games.length) 0 (Nat.zero_le _)
    ⟨rfl, rfl, rfl, rfl, rfl, rfl, rfl, trivial⟩ (by rw [show T 0 = List.replicate n zeroRow from rfl, ← manyC_rows]; rfl) (Nat.zero_le _) ?_
  intro i hi
  simp only [eRules]
  simp -implicitDefEqProofs only [go_sem, ↓reduceIte, Nat.reduceEqDiff, Nat.reduceAdd, Nat.reduceLeDiff, vGames, vInt]
  refine condA_dec (fun h => ?_) (fun h => ?_)
  · have hlt : i < games.length := by omega
    have hgok := hok _ (List.getElem_mem hlt)
    have hadd := l06Add u (T i) games[i] (by rw [hT]; exact hgok) hr (fun r h => (hsm i hi r h).mono (by omega)) fun _ => goals_small hgok hr
    rw [hT] at hadd
    simp -implicitDefEqProofs only [go_sem, ↓reduceIte, Nat.reduceEqDiff, Nat.reduceAdd, Nat.reduceLeDiff, List.getElem?_eq_getElem hlt]
    simp only [eGame]
    have hwf : ∀ k, WfM [Blk.cells ((eRules u).map .v), .cells (cOf eRow (T k))] := fun k => WfM.data fun x hx => by
      simp only [List.mem_cons, List.not_mem_nil, or_false] at hx
      rcases hx with rfl | rfl
      · exact ⟨eRules u, rfl⟩
      · exact cOf_data _ _
    cases all
    · simp -implicitDefEqProofs only [go_sem, ↓reduceIte, Nat.reduceEqDiff, Nat.reduceAdd, Nat.reduceLeDiff]
      refine (l02Has group games[i].home hgr).callp (.v _ (.v _ .nil)) ?_
      cases h1 : has group games[i].home
      · simp -implicitDefEqProofs only [go_sem, ↓reduceIte, Nat.reduceEqDiff, Nat.reduceAdd, Nat.reduceLeDiff, w64s (show i < 4611686018427387904 by omega)]
        have hTi : T (i + 1) = T i := by simp only [T]; rw [tableBy_succ _ _ _ _ _ hlt, if_neg (by simp [inGroup, h1])]
        exact next_drop (i + 1) [_] (by omega) (by omega) (hwf _) (Nat.zero_le _) ⟨rfl, rfl, rfl, rfl, rfl, rfl, rfl, trivial⟩ ⟨Nat.zero_lt_succ _, trivial, trivial, Nat.one_lt_two, trivial, trivial, trivial, trivial⟩ (by rw [hTi]; rfl)
      simp -implicitDefEqProofs only [go_sem, ↓reduceIte, Nat.reduceEqDiff, Nat.reduceAdd, Nat.reduceLeDiff]
      refine (l02Has group games[i].away hgr).callp (.v _ (.v _ .nil)) ?_
      cases h2 : has group games[i].away
      · simp -implicitDefEqProofs only [go_sem, ↓reduceIte, Nat.reduceEqDiff, Nat.reduceAdd, Nat.reduceLeDiff, w64s (show i < 4611686018427387904 by omega)]
        have hTi : T (i + 1) = T i := by simp only [T]; rw [tableBy_succ _ _ _ _ _ hlt, if_neg (by simp [inGroup, h1, h2])]
        exact next_drop (i + 1) [_] (by omega) (by omega) (hwf _) (Nat.zero_le _) ⟨rfl, rfl, rfl, rfl, rfl, rfl, rfl, trivial⟩ ⟨Nat.zero_lt_succ _, trivial, trivial, Nat.one_lt_two, trivial, trivial, trivial, trivial⟩ (by rw [hTi]; rfl)
      · simp -implicitDefEqProofs only [go_sem, ↓reduceIte, Nat.reduceEqDiff, Nat.reduceAdd, Nat.reduceLeDiff]
        refine handT (i := 1) ⟨eRules u, rfl⟩ ⟨eGame games[i], rfl⟩ hadd rfl ?_
        simp -implicitDefEqProofs only [go_sem, ↓reduceIte, Nat.reduceEqDiff, Nat.reduceAdd, Nat.reduceLeDiff, w64s (show i < 4611686018427387904 by omega)]
        have hTi : T (i + 1) = addGame' u (T i) games[i] := by simp only [T]; rw [tableBy_succ _ _ _ _ _ hlt, if_pos (by simp [inGroup, h1, h2])]
        exact next_drop (i + 1) [_] (by omega) (by omega) (hwf _) (Nat.zero_le _) ⟨rfl, rfl, rfl, rfl, rfl, rfl, rfl, trivial⟩ ⟨Nat.zero_lt_succ _, trivial, trivial, Nat.one_lt_two, trivial, trivial, trivial, trivial⟩ (by rw [hTi]; rfl)
    · simp -implicitDefEqProofs only [go_sem, ↓reduceIte, Nat.reduceEqDiff, Nat.reduceAdd, Nat.reduceLeDiff]
      refine handT (i := 1) ⟨eRules u, rfl⟩ ⟨eGame games[i], rfl⟩ hadd rfl ?_
      simp -implicitDefEqProofs only [go_sem, ↓reduceIte, Nat.reduceEqDiff, Nat.reduceAdd, Nat.reduceLeDiff, w64s (show i < 4611686018427387904 by omega)]
      have hTi : T (i + 1) = addGame' u (T i) games[i] := by simp only [T]; rw [tableBy_succ _ _ _ _ _ hlt, if_pos (by simp [inGroup])]
      exact next_drop (i + 1) [_] (by omega) (by omega) (hwf _) (Nat.zero_le _) ⟨rfl, rfl, rfl, rfl, rfl, rfl, rfl, trivial⟩ ⟨Nat.zero_lt_succ _, trivial, trivial, Nat.one_lt_two, trivial, trivial, trivial, trivial⟩ (by rw [hTi]; rfl)
  · simp -implicitDefEqProofs only [go_sem, ↓reduceIte, Nat.reduceEqDiff, Nat.reduceAdd, Nat.reduceLeDiff]
    have hin : i = games.length := by omega
    refine finK_pick [1] [.cells (cOf eRow (T i))] (DC (.sl 7 0 0 n)) (by decide) rfl (fun j b' hj => ?_) (.inr rfl) (show 0 < 1 from Nat.zero_lt_one) ⟨rfl, by rw [hin]; simp only [T, List.take_length]⟩
    match j, hj with
    | 0, hj => cases hj; exact ⟨cOf_data _ _, rfl⟩
    | j + 1, hj => simp at hj

end Go.Proofs.YtneiicadhjdbiaaGreat.Ab

namespace Go.Proofs.YtneiicadhjdbiaaGreat.Ab
open Go

def keyVal (b : Book) (rows : List Row) (key : Int) (i : Nat) : Int :=
  let r := rows.getD i zeroRow
  if key = 1 then r.points - b.taken.getD i 0 else if key = 5 then r.points else if key = 2 ∨ key = 6 then r.scored - r.against else if key = 3 then r.scored else if key = 4 then r.wins
  else if key = 7 then -(b.fair.getD i 0) else if key = 8 then -(b.field.getD i ⟨[], 0, 0⟩).seed else 0

def valuesOf (b : Book) (key : Int) (group : List Int) : List Int :=
  (List.range b.field.length).map (keyVal b (tableBy b.rules b.field.length (inGroup group (!isMutual key)) b.games) key)

theorem valuesOf_len (b : Book) (key : Int) (group : List Int) : (valuesOf b key group).length = b.field.length := by simp [valuesOf]

end Go.Proofs.YtneiicadhjdbiaaGreat.Ab

namespace Go.Proofs.YtneiicadhjdbiaaGreat.Ab
open Go

theorem isFn_rankerOfC1 : isFn Tryz.prog F.impl_rankerOf_c1 = true := by kernel_rfl

theorem amongC1 (l : List Int) (g : Game) (hl : l.length < 4611686018427387904) : AFun Tryz.prog F.impl_among_c1 [dGame g, DC (.ptr 0 0)] [.cells [.v (vInts l)]] fun d m => d = DV (.bool (inGroup l false g)) ∧ m = [.cells [.v (vInts l)]] := by
  have hw : WfM [Blk.cells [C.v (vInts l)]] := WfM.data fun b hb => by simp only [List.mem_cons, List.not_mem_nil, or_false] at hb; subst hb; exact ⟨[vInts l], rfl⟩
  refine AFun.intro k_impl_among_c1 (by simp) ?_
  unfold c_impl_among_c1
  simp only [argE, Nat.reduceAdd]
  simp only [dGame, eGame]
  simp -implicitDefEqProofs only [go_sem, ↓reduceIte, Nat.reduceEqDiff, Nat.reduceAdd, Nat.reduceLeDiff]
  refine (containsInt l g.home hl).callp (.v _ (.v _ .nil)) ?_
  cases h1 : has l g.home
  · simp -implicitDefEqProofs only [go_sem, ↓reduceIte, Nat.reduceEqDiff, Nat.reduceAdd, Nat.reduceLeDiff]
    exact finK_drop (mem := [.cells [.v (vInts l)]]) hw trivial ⟨by rw [inGroup, h1]; rfl, rfl⟩
  · simp -implicitDefEqProofs only [go_sem, ↓reduceIte, Nat.reduceEqDiff, Nat.reduceAdd, Nat.reduceLeDiff]
    refine (containsInt l g.away hl).callp (.v _ (.v _ .nil)) ?_
    simp -implicitDefEqProofs only [go_sem, ↓reduceIte, Nat.reduceEqDiff, Nat.reduceAdd, Nat.reduceLeDiff]
    exact finK_drop (mem := [.cells [.v (vInts l)]]) hw trivial ⟨by rw [inGroup, h1]; rfl, rfl⟩
theorem isFn_amongC1 : isFn Tryz.prog F.impl_among_c1 = true := by kernel_rfl

end Go.Proofs.YtneiicadhjdbiaaGreat.Ab

namespace Go.Proofs.YtneiicadhjdbiaaGreat.Ab
open Go

/-- Where a value belongs among groups that stand by descending values. -/
def spot (val : Int → Int) (t : Int) (gs : List (List Int)) : Nat := gs.findIdx fun g => !decide (val t < val (g.headD 0))
/-- One more team. -/
def insG (val : Int → Int) (gs : List (List Int)) (t : Int) : List (List Int) :=
  match gs[spot val t gs]? with
  | some g => if val (g.headD 0) = val t then gs.set (spot val t gs) (g ++ [t]) else gs.take (spot val t gs) ++ [t] :: gs.drop (spot val t gs)
  | none => gs ++ [[t]]
def splitBy (val : Int → Int) (group : List Int) : List (List Int) := group.foldl (insG val) []

theorem spot_le (val : Int → Int) (t : Int) (gs : List (List Int)) : spot val t gs ≤ gs.length := List.findIdx_le_length
theorem spot_lt {val : Int → Int} {t : Int} {gs : List (List Int)} {k : Nat} (hk : k < spot val t gs) (h : k < gs.length) : val t < val (gs[k].headD 0) := by
  have := List.not_of_lt_findIdx hk
  simpa using this
theorem spot_at {val : Int → Int} {t : Int} {gs : List (List Int)} (h : spot val t gs < gs.length) : ¬ val t < val (gs[spot val t gs].headD 0) := by
  have := List.findIdx_getElem (w := h)
  simp only [Bool.not_eq_true', decide_eq_false_iff_not] at this
  exact this
/-- The first place that is not above. -/
theorem spot_of {val : Int → Int} {t : Int} {gs : List (List Int)} {k : Nat} (hk : k ≤ gs.length) (h1 : ∀ j (h : j < gs.length), j < k → val t < val (gs[j].headD 0)) (h2 : ∀ h : k < gs.length, ¬ val t < val (gs[k].headD 0)) : spot val t gs = k := by
  rcases Nat.lt_trichotomy (spot val t gs) k with h | h | h
  · exact absurd (h1 _ (by omega) h) (spot_at (by omega))
  · exact h
  · have hlt : k < gs.length := by have := spot_le val t gs; omega
    exact absurd (spot_lt h hlt) (h2 hlt)

theorem le_sum_mem : ∀ {ls : List Nat} {x : Nat}, x ∈ ls → x ≤ ls.sum
  | a :: r, x, h => by
    simp only [List.sum_cons]
    rcases List.mem_cons.1 h with rfl | h
    · omega
    · have := le_sum_mem h; omega
def lens (gs : List (List Int)) : Nat := (gs.map List.length).sum
theorem lens_flat (gs : List (List Int)) : lens gs = gs.flatten.length := by rw [lens, List.length_flatten]

theorem insG_perm (val : Int → Int) (gs : List (List Int)) (t : Int) : (insG val gs t).flatten.Perm (t :: gs.flatten) := by
  unfold insG
  split
  · rename_i g hg
    have hlt := (List.getElem?_eq_some_iff.1 hg).1
    have hge := (List.getElem?_eq_some_iff.1 hg).2
    have e : gs = gs.take (spot val t gs) ++ g :: gs.drop (spot val t gs + 1) := by
      rw [← hge, ← List.drop_eq_getElem_cons hlt, List.take_append_drop]
    split
    · rw [List.set_eq_take_append_cons_drop, if_pos hlt]
      conv => rhs; rw [e]
      simp only [List.flatten_append, List.flatten_cons, List.append_assoc]
      have : (t :: ((List.take (spot val t gs) gs).flatten ++ (g ++ (List.drop (spot val t gs + 1) gs).flatten))).Perm ((List.take (spot val t gs) gs).flatten ++ (g ++ (t :: (List.drop (spot val t gs + 1) gs).flatten))) := by
        rw [← List.append_assoc, ← List.append_assoc]; exact List.perm_middle.symm
      exact (by simpa using this.symm)
    · conv => rhs; rw [← List.take_append_drop (spot val t gs) gs]
      simp only [List.flatten_append, List.flatten_cons, List.singleton_append]
      exact List.perm_middle
  · simp only [List.flatten_append, List.flatten_cons, List.flatten_nil, List.append_nil]
    exact List.perm_append_comm

theorem insG_ne (val : Int → Int) {gs : List (List Int)} (t : Int) (h : ∀ g ∈ gs, g ≠ []) : ∀ g ∈ insG val gs t, g ≠ [] := by
  unfold insG
  split
  · rename_i g0 hg
    split
    · intro g hm
      rcases List.mem_or_eq_of_mem_set hm with h1 | rfl
      · exact h g h1
      · simp
    · intro g hm
      simp only [List.mem_append, List.mem_cons] at hm
      rcases hm with h1 | rfl | h1
      · exact h g (List.mem_of_mem_take h1)
      · simp
      · exact h g (List.mem_of_mem_drop h1)
  · intro g hm
    simp only [List.mem_append, List.mem_singleton] at hm
    rcases hm with h1 | rfl
    · exact h g h1
    · simp

theorem splitBy_go (val : Int → Int) : ∀ (l : List Int) (gs : List (List Int)), (l.foldl (insG val) gs).flatten.Perm (l ++ gs.flatten) ∧ ((∀ g ∈ gs, g ≠ []) → ∀ g ∈ l.foldl (insG val) gs, g ≠ [])
  | [], gs => ⟨.refl _, fun h => h⟩
  | t :: l, gs => by
    obtain ⟨h1, h2⟩ := splitBy_go val l (insG val gs t)
    refine ⟨?_, fun h => h2 (insG_ne val t h)⟩
    refine h1.trans ?_
    refine ((insG_perm val gs t).append_left l).trans ?_
    exact List.perm_middle

theorem splitBy_perm (val : Int → Int) (l : List Int) : (splitBy val l).flatten.Perm l := by have := (splitBy_go val l []).1; rwa [List.flatten_nil, List.append_nil] at this
theorem splitBy_ne (val : Int → Int) (l : List Int) : ∀ g ∈ splitBy val l, g ≠ [] := (splitBy_go val l []).2 (fun g h => by simp at h)
theorem splitBy_len (val : Int → Int) (l : List Int) : ∀ p ∈ splitBy val l, p.length ≤ l.length := by
  intro p hp
  have := (splitBy_perm val l).length_eq
  rw [List.length_flatten] at this
  rw [← this]
  exact le_sum_mem (List.mem_map_of_mem hp)
theorem splitBy_mem (val : Int → Int) (l : List Int) : ∀ p ∈ splitBy val l, ∀ t ∈ p, t ∈ l := fun p hp t ht => (splitBy_perm val l).mem_iff.1 (List.mem_flatten.2 ⟨p, hp, ht⟩)

theorem sum_two : ∀ (ls : List Nat) (x : Nat), x ∈ ls → (∀ y ∈ ls, 0 < y) → 1 < ls.length → x < ls.sum
  | [], x, h, _, _ => by simp at h
  | [a], x, _, _, h => by simp at h
  | a :: b :: r, x, h, hp, _ => by
    have ha := hp a (by simp)
    have hb := hp b (by simp)
    simp only [List.sum_cons]
    rcases List.mem_cons.1 h with rfl | h
    · omega
    · have := le_sum_mem h
      simp only [List.sum_cons] at this
      omega

theorem splitBy_lt (val : Int → Int) (l : List Int) (h2 : 1 < (splitBy val l).length) : ∀ p ∈ splitBy val l, p.length < l.length := by
  intro p hp
  have := (splitBy_perm val l).length_eq
  rw [List.length_flatten] at this
  rw [← this]
  refine sum_two _ _ (List.mem_map_of_mem hp) (fun y hy => ?_) (by simpa using h2)
  obtain ⟨g, hg, rfl⟩ := List.mem_map.1 hy
  have := splitBy_ne val l g hg
  exact List.length_pos_iff.2 this

end Go.Proofs.YtneiicadhjdbiaaGreat.Ab

namespace Go.Proofs.YtneiicadhjdbiaaGreat.Ab
open Go

theorem cOf_fld {α : Type} (f : α → List V) (sz : Nat) (hf : ∀ x, (f x).length = sz) (l : List α) (i : Nat) (hi : i < l.length) (k : Nat) (hk : k < sz) (y : α) (v : V) (hv : (f l[i]).set k v = f y) : (cOf f l).set (i * sz + k) (.v v) = cOf f (l.set i y) := by
  obtain ⟨h1, h2⟩ := cOf_split f sz hf l i hi
  have h3 := (cOf_split f sz hf (l.set i y) i (by simpa using hi)).1
  rw [List.take_set_of_le (Nat.le_refl i), List.drop_set_of_lt (by omega), List.getElem_set_self] at h3
  rw [h3, h1, ← hv, List.set_append_right _ _ (by omega), h2, Nat.add_sub_cancel_left, List.set_append_left _ _ (by simpa [hf] using hk), List.map_set]

theorem rdm_fld {α : Type} (f : α → List V) (sz : Nat) (hf : ∀ x, (f x).length = sz) {m : List Blk} {id : Nat} {l : List α} (hm : m[id]? = some (.cells (cOf f l))) (i : Nat) (hi : i < l.length) (k : Nat) (hk : k < sz) (v : V) (hv : (f l[i])[k]? = some v) : rdm m id (i * sz + k) 1 = some [.v v] := by
  have h1 := cOf_get f sz hf l i hi
  have h2 : (cOf f l).length = l.length * sz := flat_len f sz hf l
  have h3 := lt_mul_of (sz := sz) hi
  unfold rdm
  rw [hm]
  show (if i * sz + k + 1 ≤ (cOf f l).length then some (((cOf f l).drop (i * sz + k)).take 1) else none) = some [.v v]
  rw [if_pos (by omega)]
  congr 1
  have h5 : (((f l[i]).map C.v).drop k).take 1 = [.v v] := by
    have hkl : k < (f l[i]).length := by rw [hf]; exact hk
    rw [List.getElem?_eq_getElem hkl] at hv
    rw [← List.map_drop, ← List.map_take, List.drop_eq_getElem_cons hkl, Option.some.inj hv]; rfl
  rw [← h5, ← h1, List.drop_take, List.take_take, List.drop_drop, Nat.min_eq_left (by omega)]

theorem wrm_fld {α : Type} (f : α → List V) (sz : Nat) (hf : ∀ x, (f x).length = sz) {m : List Blk} {id : Nat} {l : List α} (hm : m[id]? = some (.cells (cOf f l))) (i : Nat) (hi : i < l.length) (k : Nat) (hk : k < sz) (y : α) (v : V) (hv : (f l[i]).set k v = f y) : wrm m id (i * sz + k) 1 [.v v] = some (m.set id (.cells (cOf f (l.set i y)))) := by
  have h2 : (cOf f l).length = l.length * sz := flat_len f sz hf l
  have h3 := lt_mul_of (sz := sz) hi
  rw [wrm_of m id (i * sz + k) 1 [.v v] (cOf f l) hm rfl (by omega)]
  congr 3
  exact cOf_fld f sz hf l i hi k hk y v hv

def chkA (x : D) (K : D → Prop) : Prop := match x with
  | .t (.c (.ptr id off)) => K (DC (.ptr id off))
  | .t (.c (.rptr vs)) => K (DC (.rptr vs))
  | _ => False
theorem f_chk {e : Env} {m : List Blk} {K : D → Prop} (x : Opd) : fop (.chk x) e m K = chkA (ev e x) K := rfl
theorem chkA_ptr {K : D → Prop} (id off : Nat) : chkA (DC (.ptr id off)) K = K (DC (.ptr id off)) := rfl
attribute [go_sem ↓] f_chk

attribute [go_sem] chkA_ptr

theorem twI_r0 {rows : List Row} {i j : Nat} (hi : i < rows.length) (hj : j < rows.length) (hij : i ≠ j) (A B C : Blk) (x y : Row) : rdm [A, B, .cells (cOf eRow ((rows.set i x).set j y)), C] 2 (0 + i * 7 + 0) 1 = some [.v (.int .i64 x.played)] := by
  have hi' : i < ((rows.set i x).set j y).length := by simpa using hi
  have e : ((rows.set i x).set j y)[i] = x := by rw [List.getElem_set_ne (fun h => hij h.symm), List.getElem_set_self]
  rw [Nat.zero_add]
  exact rdm_fld eRow 7 (fun _ => rfl) rfl i hi' 0 (by omega) _ (by rw [e]; rfl)
theorem twJ_r0 {rows : List Row} {i j : Nat} (hi : i < rows.length) (hj : j < rows.length) (hij : i ≠ j) (A B C : Blk) (x y : Row) : rdm [A, B, .cells (cOf eRow ((rows.set i x).set j y)), C] 2 (0 + j * 7 + 0) 1 = some [.v (.int .i64 y.played)] := by
  have hj' : j < ((rows.set i x).set j y).length := by simpa using hj
  have e : ((rows.set i x).set j y)[j] = y := List.getElem_set_self ..
  rw [Nat.zero_add]
  exact rdm_fld eRow 7 (fun _ => rfl) rfl j hj' 0 (by omega) _ (by rw [e]; rfl)
theorem twI_w0 {rows : List Row} {i j : Nat} (hi : i < rows.length) (hj : j < rows.length) (hij : i ≠ j) (A B C : Blk) (x y : Row) (n : Int) : wrm [A, B, .cells (cOf eRow ((rows.set i x).set j y)), C] 2 (0 + i * 7 + 0) 1 [.v (.int .i64 n)] = some [A, B, .cells (cOf eRow ((rows.set i ⟨n, x.wins, x.draws, x.losses, x.scored, x.against, x.points⟩).set j y)), C] := by
  have hi' : i < ((rows.set i x).set j y).length := by simpa using hi
  have e : ((rows.set i x).set j y)[i] = x := by rw [List.getElem_set_ne (fun h => hij h.symm), List.getElem_set_self]
  rw [Nat.zero_add]
  have := wrm_fld eRow 7 (fun _ => rfl) (m := [A, B, .cells (cOf eRow ((rows.set i x).set j y)), C]) (id := 2) rfl i hi' 0 (by omega) ⟨n, x.wins, x.draws, x.losses, x.scored, x.against, x.points⟩ (.int .i64 n) (by rw [e]; rfl)
  rw [List.set_comm _ _ (fun h => hij h.symm), List.set_set] at this
  exact this
theorem twJ_w0 {rows : List Row} {i j : Nat} (hi : i < rows.length) (hj : j < rows.length) (hij : i ≠ j) (A B C : Blk) (x y : Row) (n : Int) : wrm [A, B, .cells (cOf eRow ((rows.set i x).set j y)), C] 2 (0 + j * 7 + 0) 1 [.v (.int .i64 n)] = some [A, B, .cells (cOf eRow ((rows.set i x).set j ⟨n, y.wins, y.draws, y.losses, y.scored, y.against, y.points⟩)), C] := by
  have hj' : j < ((rows.set i x).set j y).length := by simpa using hj
  have e : ((rows.set i x).set j y)[j] = y := List.getElem_set_self ..
  rw [Nat.zero_add]
  have := wrm_fld eRow 7 (fun _ => rfl) (m := [A, B, .cells (cOf eRow ((rows.set i x).set j y)), C]) (id := 2) rfl j hj' 0 (by omega) ⟨n, y.wins, y.draws, y.losses, y.scored, y.against, y.points⟩ (.int .i64 n) (by rw [e]; rfl)
  rw [List.set_set] at this
  exact this
theorem twI_r1 {rows : List Row} {i j : Nat} (hi : i < rows.length) (hj : j < rows.length) (hij : i ≠ j) (A B C : Blk) (x y : Row) : rdm [A, B, .cells (cOf eRow ((rows.set i x).set j y)), C] 2 (0 + i * 7 + 1) 1 = some [.v (.int .i64 x.wins)] := by
  have hi' : i < ((rows.set i x).set j y).length := by simpa using hi
  have e : ((rows.set i x).set j y)[i] = x := by rw [List.getElem_set_ne (fun h => hij h.symm), List.getElem_set_self]
  rw [Nat.zero_add]
  exact rdm_fld eRow 7 (fun _ => rfl) rfl i hi' 1 (by omega) _ (by rw [e]; rfl)
theorem twJ_r1 {rows : List Row} {i j : Nat} (hi : i < rows.length) (hj : j < rows.length) (hij : i ≠ j) (A B C : Blk) (x y : Row) : rdm [A, B, .cells (cOf eRow ((rows.set i x).set j y)), C] 2 (0 + j * 7 + 1) 1 = some [.v (.int .i64 y.wins)] := by
  have hj' : j < ((rows.set i x).set j y).length := by simpa using hj
  have e : ((rows.set i x).set j y)[j] = y := List.getElem_set_self ..
  rw [Nat.zero_add]
  exact rdm_fld eRow 7 (fun _ => rfl) rfl j hj' 1 (by omega) _ (by rw [e]; rfl)
theorem twI_w1 {rows : List Row} {i j : Nat} (hi : i < rows.length) (hj : j < rows.length) (hij : i ≠ j) (A B C : Blk) (x y : Row) (n : Int) : wrm [A, B, .cells (cOf eRow ((rows.set i x).set j y)), C] 2 (0 + i * 7 + 1) 1 [.v (.int .i64 n)] = some [A, B, .cells (cOf eRow ((rows.set i ⟨x.played, n, x.draws, x.losses, x.scored, x.against, x.points⟩).set j y)), C] := by
  have hi' : i < ((rows.set i x).set j y).length := by simpa using hi
  have e : ((rows.set i x).set j y)[i] = x := by rw [List.getElem_set_ne (fun h => hij h.symm), List.getElem_set_self]
  rw [Nat.zero_add]
  have := wrm_fld eRow 7 (fun _ => rfl) (m := [A, B, .cells (cOf eRow ((rows.set i x).set j y)), C]) (id := 2) rfl i hi' 1 (by omega) ⟨x.played, n, x.draws, x.losses, x.scored, x.against, x.points⟩ (.int .i64 n) (by rw [e]; rfl)
  rw [List.set_comm _ _ (fun h => hij h.symm), List.set_set] at this
  exact this
theorem twJ_w1 {rows : List Row} {i j : Nat} (hi : i < rows.length) (hj : j < rows.length) (hij : i ≠ j) (A B C : Blk) (x y : Row) (n : Int) : wrm [A, B, .cells (cOf eRow ((rows.set i x).set j y)), C] 2 (0 + j * 7 + 1) 1 [.v (.int .i64 n)] = some [A, B, .cells (cOf eRow ((rows.set i x).set j ⟨y.played, n, y.draws, y.losses, y.scored, y.against, y.points⟩)), C] := by
  have hj' : j < ((rows.set i x).set j y).length := by simpa using hj
  have e : ((rows.set i x).set j y)[j] = y := List.getElem_set_self ..
  rw [Nat.zero_add]
  have := wrm_fld eRow 7 (fun _ => rfl) (m := [A, B, .cells (cOf eRow ((rows.set i x).set j y)), C]) (id := 2) rfl j hj' 1 (by omega) ⟨y.played, n, y.draws, y.losses, y.scored, y.against, y.points⟩ (.int .i64 n) (by rw [e]; rfl)
  rw [List.set_set] at this
  exact this
theorem twI_r2 {rows : List Row} {i j : Nat} (hi : i < rows.length) (hj : j < rows.length) (hij : i ≠ j) (A B C : Blk) (x y : Row) : rdm [A, B, .cells (cOf eRow ((rows.set i x).set j y)), C] 2 (0 + i * 7 + 2) 1 = some [.v (.int .i64 x.draws)] := by
  have hi' : i < ((rows.set i x).set j y).length := by simpa using hi
  have e : ((rows.set i x).set j y)[i] = x := by rw [List.getElem_set_ne (fun h => hij h.symm), List.getElem_set_self]
  rw [Nat.zero_add]
  exact rdm_fld eRow 7 (fun _ => rfl) rfl i hi' 2 (by omega) _ (by rw [e]; rfl)
theorem twJ_r2 {rows : List Row} {i j : Nat} (hi : i < rows.length) (hj : j < rows.length) (hij : i ≠ j) (A B C : Blk) (x y : Row) : rdm [A, B, .cells (cOf eRow ((rows.set i x).set j y)), C] 2 (0 + j * 7 + 2) 1 = some [.v (.int .i64 y.draws)] := by
  have hj' : j < ((rows.set i x).set j y).length := by simpa using hj
  have e : ((rows.set i x).set j y)[j] = y := List.getElem_set_self ..
  rw [Nat.zero_add]
  exact rdm_fld eRow 7 (fun _ => rfl) rfl j hj' 2 (by omega) _ (by rw [e]; rfl)
theorem twI_w2 {rows : List Row} {i j : Nat} (hi : i < rows.length) (hj : j < rows.length) (hij : i ≠ j) (A B C : Blk) (x y : Row) (n : Int) : wrm [A, B, .cells (cOf eRow ((rows.set i x).set j y)), C] 2 (0 + i * 7 + 2) 1 [.v (.int .i64 n)] = some [A, B, .cells (cOf eRow ((rows.set i ⟨x.played, x.wins, n, x.losses, x.scored, x.against, x.points⟩).set j y)), C] := by
  have hi' : i < ((rows.set i x).set j y).length := by simpa using hi
  have e : ((rows.set i x).set j y)[i] = x := by rw [List.getElem_set_ne (fun h => hij h.symm), List.getElem_set_self]
  rw [Nat.zero_add]
  have := wrm_fld eRow 7 (fun _ => rfl) (m := [A, B, .cells (cOf eRow ((rows.set i x).set j y)), C]) (id := 2) rfl i hi' 2 (by omega) ⟨x.played, x.wins, n, x.losses, x.scored, x.against, x.points⟩ (.int .i64 n) (by rw [e]; rfl)
  rw [List.set_comm _ _ (fun h => hij h.symm), List.set_set] at this
  exact this
theorem twJ_w2 {rows : List Row} {i j : Nat} (hi : i < rows.length) (hj : j < rows.length) (hij : i ≠ j) (A B C : Blk) (x y : Row) (n : Int) : wrm [A, B, .cells (cOf eRow ((rows.set i x).set j y)), C] 2 (0 + j * 7 + 2) 1 [.v (.int .i64 n)] = some [A, B, .cells (cOf eRow ((rows.set i x).set j ⟨y.played, y.wins, n, y.losses, y.scored, y.against, y.points⟩)), C] := by
  have hj' : j < ((rows.set i x).set j y).length := by simpa using hj
  have e : ((rows.set i x).set j y)[j] = y := List.getElem_set_self ..
  rw [Nat.zero_add]
  have := wrm_fld eRow 7 (fun _ => rfl) (m := [A, B, .cells (cOf eRow ((rows.set i x).set j y)), C]) (id := 2) rfl j hj' 2 (by omega) ⟨y.played, y.wins, n, y.losses, y.scored, y.against, y.points⟩ (.int .i64 n) (by rw [e]; rfl)
  rw [List.set_set] at this
  exact this
theorem twI_r3 {rows : List Row} {i j : Nat} (hi : i < rows.length) (hj : j < rows.length) (hij : i ≠ j) (A B C : Blk) (x y : Row) : rdm [A, B, .cells (cOf eRow ((rows.set i x).set j y)), C] 2 (0 + i * 7 + 3) 1 = some [.v (.int .i64 x.losses)] := by
  have hi' : i < ((rows.set i x).set j y).length := by simpa using hi
  have e : ((rows.set i x).set j y)[i] = x := by rw [List.getElem_set_ne (fun h => hij h.symm), List.getElem_set_self]
  rw [Nat.zero_add]
  exact rdm_fld eRow 7 (fun _ => rfl) rfl i hi' 3 (by omega) _ (by rw [e]; rfl)
theorem twJ_r3 {rows : List Row} {i j : Nat} (hi : i < rows.length) (hj : j < rows.length) (hij : i ≠ j) (A B C : Blk) (x y : Row) : rdm [A, B, .cells (cOf eRow ((rows.set i x).set j y)), C] 2 (0 + j * 7 + 3) 1 = some [.v (.int .i64 y.losses)] := by
  have hj' : j < ((rows.set i x).set j y).length := by simpa using hj
  have e : ((rows.set i x).set j y)[j] = y := List.getElem_set_self ..
  rw [Nat.zero_add]
  exact rdm_fld eRow 7 (fun _ => rfl) rfl j hj' 3 (by omega) _ (by rw [e]; rfl)
theorem twI_w3 {rows : List Row} {i j : Nat} (hi : i < rows.length) (hj : j < rows.length) (hij : i ≠ j) (A B C : Blk) (x y : Row) (n : Int) : wrm [A, B, .cells (cOf eRow ((rows.set i x).set j y)), C] 2 (0 + i * 7 + 3) 1 [.v (.int .i64 n)] = some [A, B, .cells (cOf eRow ((rows.set i ⟨x.played, x.wins, x.draws, n, x.scored, x.against, x.points⟩).set j y)), C] := by
  have hi' : i < ((rows.set i x).set j y).length := by simpa using hi
  have e : ((rows.set i x).set j y)[i] = x := by rw [List.getElem_set_ne (fun h => hij h.symm), List.getElem_set_self]
  rw [Nat.zero_add]
  have := wrm_fld eRow 7 (fun _ => rfl) (m := [A, B, .cells (cOf eRow ((rows.set i x).set j y)), C]) (id := 2) rfl i hi' 3 (by omega) ⟨x.played, x.wins, x.draws, n, x.scored, x.against, x.points⟩ (.int .i64 n) (by rw [e]; rfl)
  rw [List.set_comm _ _ (fun h => hij h.symm), List.set_set] at this
  exact this
theorem twJ_w3 {rows : List Row} {i j : Nat} (hi : i < rows.length) (hj : j < rows.length) (hij : i ≠ j) (A B C : Blk) (x y : Row) (n : Int) : wrm [A, B, .cells (cOf eRow ((rows.set i x).set j y)), C] 2 (0 + j * 7 + 3) 1 [.v (.int .i64 n)] = some [A, B, .cells (cOf eRow ((rows.set i x).set j ⟨y.played, y.wins, y.draws, n, y.scored, y.against, y.points⟩)), C] := by
  have hj' : j < ((rows.set i x).set j y).length := by simpa using hj
  have e : ((rows.set i x).set j y)[j] = y := List.getElem_set_self ..
  rw [Nat.zero_add]
  have := wrm_fld eRow 7 (fun _ => rfl) (m := [A, B, .cells (cOf eRow ((rows.set i x).set j y)), C]) (id := 2) rfl j hj' 3 (by omega) ⟨y.played, y.wins, y.draws, n, y.scored, y.against, y.points⟩ (.int .i64 n) (by rw [e]; rfl)
  rw [List.set_set] at this
  exact this
theorem twI_r4 {rows : List Row} {i j : Nat} (hi : i < rows.length) (hj : j < rows.length) (hij : i ≠ j) (A B C : Blk) (x y : Row) : rdm [A, B, .cells (cOf eRow ((rows.set i x).set j y)), C] 2 (0 + i * 7 + 4) 1 = some [.v (.int .i64 x.scored)] := by
  have hi' : i < ((rows.set i x).set j y).length := by simpa using hi
  have e : ((rows.set i x).set j y)[i] = x := by rw [List.getElem_set_ne (fun h => hij h.symm), List.getElem_set_self]
  rw [Nat.zero_add]
  exact rdm_fld eRow 7 (fun _ => rfl) rfl i hi' 4 (by omega) _ (by rw [e]; rfl)
theorem twJ_r4 {rows : List Row} {i j : Nat} (hi : i < rows.length) (hj : j < rows.length) (hij : i ≠ j) (A B C : Blk) (x y : Row) : rdm [A, B, .cells (cOf eRow ((rows.set i x).set j y)), C] 2 (0 + j * 7 + 4) 1 = some [.v (.int .i64 y.scored)] := by
  have hj' : j < ((rows.set i x).set j y).length := by simpa using hj
  have e : ((rows.set i x).set j y)[j] = y := List.getElem_set_self ..
  rw [Nat.zero_add]
  exact rdm_fld eRow 7 (fun _ => rfl) rfl j hj' 4 (by omega) _ (by rw [e]; rfl)
theorem twI_w4 {rows : List Row} {i j : Nat} (hi : i < rows.length) (hj : j < rows.length) (hij : i ≠ j) (A B C : Blk) (x y : Row) (n : Int) : wrm [A, B, .cells (cOf eRow ((rows.set i x).set j y)), C] 2 (0 + i * 7 + 4) 1 [.v (.int .i64 n)] = some [A, B, .cells (cOf eRow ((rows.set i ⟨x.played, x.wins, x.draws, x.losses, n, x.against, x.points⟩).set j y)), C] := by
  have hi' : i < ((rows.set i x).set j y).length := by simpa using hi
  have e : ((rows.set i x).set j y)[i] = x := by rw [List.getElem_set_ne (fun h => hij h.symm), List.getElem_set_self]
  rw [Nat.zero_add]
  have := wrm_fld eRow 7 (fun _ => rfl) (m := [A, B, .cells (cOf eRow ((rows.set i x).set j y)), C]) (id := 2) rfl i hi' 4 (by omega) ⟨x.played, x.wins, x.draws, x.losses, n, x.against, x.points⟩ (.int .i64 n) (by rw [e]; rfl)
  rw [List.set_comm _ _ (fun h => hij h.symm), List.set_set] at this
  exact this
theorem twJ_w4 {rows : List Row} {i j : Nat} (hi : i < rows.length) (hj : j < rows.length) (hij : i ≠ j) (A B C : Blk) (x y : Row) (n : Int) : wrm [A, B, .cells (cOf eRow ((rows.set i x).set j y)), C] 2 (0 + j * 7 + 4) 1 [.v (.int .i64 n)] = some [A, B, .cells (cOf eRow ((rows.set i x).set j ⟨y.played, y.wins, y.draws, y.losses, n, y.against, y.points⟩)), C] := by
  have hj' : j < ((rows.set i x).set j y).length := by simpa using hj
  have e : ((rows.set i x).set j y)[j] = y := List.getElem_set_self ..
  rw [Nat.zero_add]
  have := wrm_fld eRow 7 (fun _ => rfl) (m := [A, B, .cells (cOf eRow ((rows.set i x).set j y)), C]) (id := 2) rfl j hj' 4 (by omega) ⟨y.played, y.wins, y.draws, y.losses, n, y.against, y.points⟩ (.int .i64 n) (by rw [e]; rfl)
  rw [List.set_set] at this
  exact this
theorem twI_r5 {rows : List Row} {i j : Nat} (hi : i < rows.length) (hj : j < rows.length) (hij : i ≠ j) (A B C : Blk) (x y : Row) : rdm [A, B, .cells (cOf eRow ((rows.set i x).set j y)), C] 2 (0 + i * 7 + 5) 1 = some [.v (.int .i64 x.against)] := by
  have hi' : i < ((rows.set i x).set j y).length := by simpa using hi
  have e : ((rows.set i x).set j y)[i] = x := by rw [List.getElem_set_ne (fun h => hij h.symm), List.getElem_set_self]
  rw [Nat.zero_add]
  exact rdm_fld eRow 7 (fun _ => rfl) rfl i hi' 5 (by omega) _ (by rw [e]; rfl)
theorem twJ_r5 {rows : List Row} {i j : Nat} (hi : i < rows.length) (hj : j < rows.length) (hij : i ≠ j) (A B C : Blk) (x y : Row) : rdm [A, B, .cells (cOf eRow ((rows.set i x).set j y)), C] 2 (0 + j * 7 + 5) 1 = some [.v (.int .i64 y.against)] := by
  have hj' : j < ((rows.set i x).set j y).length := by simpa using hj
  have e : ((rows.set i x).set j y)[j] = y := List.getElem_set_self ..
  rw [Nat.zero_add]
  exact rdm_fld eRow 7 (fun _ => rfl) rfl j hj' 5 (by omega) _ (by rw [e]; rfl)
theorem twI_w5 {rows : List Row} {i j : Nat} (hi : i < rows.length) (hj : j < rows.length) (hij : i ≠ j) (A B C : Blk) (x y : Row) (n : Int) : wrm [A, B, .cells (cOf eRow ((rows.set i x).set j y)), C] 2 (0 + i * 7 + 5) 1 [.v (.int .i64 n)] = some [A, B, .cells (cOf eRow ((rows.set i ⟨x.played, x.wins, x.draws, x.losses, x.scored, n, x.points⟩).set j y)), C] := by
  have hi' : i < ((rows.set i x).set j y).length := by simpa using hi
  have e : ((rows.set i x).set j y)[i] = x := by rw [List.getElem_set_ne (fun h => hij h.symm), List.getElem_set_self]
  rw [Nat.zero_add]
  have := wrm_fld eRow 7 (fun _ => rfl) (m := [A, B, .cells (cOf eRow ((rows.set i x).set j y)), C]) (id := 2) rfl i hi' 5 (by omega) ⟨x.played, x.wins, x.draws, x.losses, x.scored, n, x.points⟩ (.int .i64 n) (by rw [e]; rfl)
  rw [List.set_comm _ _ (fun h => hij h.symm), List.set_set] at this
  exact this
theorem twJ_w5 {rows : List Row} {i j : Nat} (hi : i < rows.length) (hj : j < rows.length) (hij : i ≠ j) (A B C : Blk) (x y : Row) (n : Int) : wrm [A, B, .cells (cOf eRow ((rows.set i x).set j y)), C] 2 (0 + j * 7 + 5) 1 [.v (.int .i64 n)] = some [A, B, .cells (cOf eRow ((rows.set i x).set j ⟨y.played, y.wins, y.draws, y.losses, y.scored, n, y.points⟩)), C] := by
  have hj' : j < ((rows.set i x).set j y).length := by simpa using hj
  have e : ((rows.set i x).set j y)[j] = y := List.getElem_set_self ..
  rw [Nat.zero_add]
  have := wrm_fld eRow 7 (fun _ => rfl) (m := [A, B, .cells (cOf eRow ((rows.set i x).set j y)), C]) (id := 2) rfl j hj' 5 (by omega) ⟨y.played, y.wins, y.draws, y.losses, y.scored, n, y.points⟩ (.int .i64 n) (by rw [e]; rfl)
  rw [List.set_set] at this
  exact this
theorem twI_r6 {rows : List Row} {i j : Nat} (hi : i < rows.length) (hj : j < rows.length) (hij : i ≠ j) (A B C : Blk) (x y : Row) : rdm [A, B, .cells (cOf eRow ((rows.set i x).set j y)), C] 2 (0 + i * 7 + 6) 1 = some [.v (.int .i64 x.points)] := by
  have hi' : i < ((rows.set i x).set j y).length := by simpa using hi
  have e : ((rows.set i x).set j y)[i] = x := by rw [List.getElem_set_ne (fun h => hij h.symm), List.getElem_set_self]
  rw [Nat.zero_add]
  exact rdm_fld eRow 7 (fun _ => rfl) rfl i hi' 6 (by omega) _ (by rw [e]; rfl)
theorem twJ_r6 {rows : List Row} {i j : Nat} (hi : i < rows.length) (hj : j < rows.length) (hij : i ≠ j) (A B C : Blk) (x y : Row) : rdm [A, B, .cells (cOf eRow ((rows.set i x).set j y)), C] 2 (0 + j * 7 + 6) 1 = some [.v (.int .i64 y.points)] := by
  have hj' : j < ((rows.set i x).set j y).length := by simpa using hj
  have e : ((rows.set i x).set j y)[j] = y := List.getElem_set_self ..
  rw [Nat.zero_add]
  exact rdm_fld eRow 7 (fun _ => rfl) rfl j hj' 6 (by omega) _ (by rw [e]; rfl)
theorem twI_w6 {rows : List Row} {i j : Nat} (hi : i < rows.length) (hj : j < rows.length) (hij : i ≠ j) (A B C : Blk) (x y : Row) (n : Int) : wrm [A, B, .cells (cOf eRow ((rows.set i x).set j y)), C] 2 (0 + i * 7 + 6) 1 [.v (.int .i64 n)] = some [A, B, .cells (cOf eRow ((rows.set i ⟨x.played, x.wins, x.draws, x.losses, x.scored, x.against, n⟩).set j y)), C] := by
  have hi' : i < ((rows.set i x).set j y).length := by simpa using hi
  have e : ((rows.set i x).set j y)[i] = x := by rw [List.getElem_set_ne (fun h => hij h.symm), List.getElem_set_self]
  rw [Nat.zero_add]
  have := wrm_fld eRow 7 (fun _ => rfl) (m := [A, B, .cells (cOf eRow ((rows.set i x).set j y)), C]) (id := 2) rfl i hi' 6 (by omega) ⟨x.played, x.wins, x.draws, x.losses, x.scored, x.against, n⟩ (.int .i64 n) (by rw [e]; rfl)
  rw [List.set_comm _ _ (fun h => hij h.symm), List.set_set] at this
  exact this
theorem twJ_w6 {rows : List Row} {i j : Nat} (hi : i < rows.length) (hj : j < rows.length) (hij : i ≠ j) (A B C : Blk) (x y : Row) (n : Int) : wrm [A, B, .cells (cOf eRow ((rows.set i x).set j y)), C] 2 (0 + j * 7 + 6) 1 [.v (.int .i64 n)] = some [A, B, .cells (cOf eRow ((rows.set i x).set j ⟨y.played, y.wins, y.draws, y.losses, y.scored, y.against, n⟩)), C] := by
  have hj' : j < ((rows.set i x).set j y).length := by simpa using hj
  have e : ((rows.set i x).set j y)[j] = y := List.getElem_set_self ..
  rw [Nat.zero_add]
  have := wrm_fld eRow 7 (fun _ => rfl) (m := [A, B, .cells (cOf eRow ((rows.set i x).set j y)), C]) (id := 2) rfl j hj' 6 (by omega) ⟨y.played, y.wins, y.draws, y.losses, y.scored, y.against, n⟩ (.int .i64 n) (by rw [e]; rfl)
  rw [List.set_set] at this
  exact this

end Go.Proofs.YtneiicadhjdbiaaGreat.Ab

namespace Go.Proofs.YtneiicadhjdbiaaGreat.Ab
open Go

/-- A result in blocks of data, the first ones under their own names. -/
theorem finK_pickN {n0 : Nat} {K : D → List Blk → Prop} {m : List Blk} {d : D} (ρ : List Nat) (m' : List Blk) (d' : D) (h0 : ∀ i, i < n0 → ρ.getD i 0 = i) (hn0 : n0 ≤ m'.length) (hn : ρ.Nodup) (hlen : m'.length = ρ.length)
    (hb : ∀ (i : Nat) (b' : Blk), m'[i]? = some b' → (∃ ys : List V, b' = .cells (ys.map .v)) ∧ m[ρ.getD i 0]? = some b') (hd : LeD (fun i => ρ.getD i 0) d' d) (hlt : d'.lt m'.length) (k : K d' m') : finK n0 m K d :=
  ⟨d', m', WkD.ren (ρ := fun i => ρ.getD i 0) ⟨h0, fun i j hi hj he => by
    rw [hlen] at hi hj
    simp only [List.getD_eq_getElem?_getD, List.getElem?_eq_getElem hi, List.getElem?_eq_getElem hj, Option.getD_some] at he
    exact nodup_inj hn hi hj he, fun i b' hi => by
    obtain ⟨⟨ys, rfl⟩, h2⟩ := hb i b' hi
    exact ⟨_, h2, ltCs_vs ys, leCs_vs ys⟩, hn0⟩ hd hlt, k⟩

set_option maxRecDepth 20000 in
theorem implTableOf (u : Rules) (n : Nat) (games : List Game) {g : Nat} {caps : List (Nat × Nat)} {ys : List V} {p : Game → Bool} (hcaps : caps = [] ∨ caps = [(0, 0)]) (hf : isFn Tryz.prog g = true)
    (hc : ∀ x ∈ games, AFun Tryz.prog g (dGame x :: caps.map fun p => DC (.ptr p.1 p.2)) [.cells (ys.map .v)] fun d m => d = DV (.bool (p x)) ∧ m = [.cells (ys.map .v)])
    (hn : n ≤ 1048576) (hg : games.length ≤ 1000) (hok : ∀ g ∈ games, gameOk n g = true) (hr : rulesOk u = true) :
    AFun Tryz.prog F.impl_tableOf [dRules u, DV (vInt n), DV (vGames games), DC (.fn g caps)] [.cells (ys.map .v)] fun d m => d = DC (.sl 7 1 0 n) ∧ m = [.cells (ys.map .v), .cells (cOf eRow (tableBy u n p games))] := by
  let Tb (i : Nat) : List Row := tableBy u n p (games.take i)
  have hT : ∀ i, (Tb i).length = n := fun i => tableBy_len _ _ _ _
  have hsm : ∀ i, i ≤ games.length → ∀ r ∈ Tb i, r.Sm (1000 * i : Nat) := by
    intro i
    induction i with
    | zero => intro _ r hr; simp only [Tb, tableBy, List.take_zero, List.foldl_nil] at hr; rw [List.eq_of_mem_replicate hr]; exact zeroRow_sm (by simp)
    | succ i ih =>
      intro hi r hr'
      have hlt : i < games.length := hi
      simp only [Tb] at hr'
      rw [tableBy_succ _ _ _ _ _ hlt] at hr'
      split at hr'
      · have := addGame'_sm (by omega) (ih (by omega)) (goals_small (hok _ (List.getElem_mem hlt)) hr) r hr'
        exact this.mono (by omega)
      · exact (ih (by omega) r hr').mono (by omega)
  refine AFun.intro k_impl_tableOf (by simp) ?_
  unfold c_impl_tableOf
  simp only [argE, Nat.reduceAdd]
  simp only [dRules, eRules, vGames]
  simp -implicitDefEqProofs only [go_sem, ↓reduceIte, Nat.reduceEqDiff, Nat.reduceAdd, Nat.reduceLeDiff]
  refine ⟨Int.le_refl _, by omega, by omega, ?_⟩
  refine loop_st (S := Nat) (fun i => [(4, DC (.ptr 1 0)), (3, DC (.fn g caps)), (9, DC (.sl 7 2 0 n)), (19, DV (vGames games)), (20, DV (vInt games.length)), (21, DV (vInt i))]) (fun i => [.cells (ys.map .v), .cells ((eRules u).map .v), .cells (cOf eRow (Tb i))]) (fun i => games.length - i) (fun i => i ≤ games.length) 0 (by simp)
    ⟨rfl, rfl, rfl, rfl, rfl, rfl, trivial⟩ (by rw [show Tb 0 = List.replicate n zeroRow from rfl, ← manyC_rows]; rfl) (Nat.zero_le _) ?_
  intro i hi
  simp only [eRules]
  simp -implicitDefEqProofs only [go_sem, ↓reduceIte, Nat.reduceEqDiff, Nat.reduceAdd, Nat.reduceLeDiff, vGames, vInt]
  refine condA_dec (fun h => ?_) (fun h => ?_)
  · have hlt : i < games.length := by omega
    have hgok := hok _ (List.getElem_mem hlt)
    have hgs := goals_small hgok hr
    have hwf : ∀ k, WfM [Blk.cells (ys.map .v), Blk.cells ((eRules u).map .v), .cells (cOf eRow (Tb k))] := fun k => WfM.data fun x hx => by
      simp only [List.mem_cons, List.not_mem_nil, or_false] at hx
      rcases hx with rfl | rfl | rfl
      · exact ⟨ys, rfl⟩
      · exact ⟨eRules u, rfl⟩
      · exact cOf_data _ _
    have hl3 : ltE 3 [(4, DC (.ptr 1 0)), (3, DC (.fn g caps)), (9, DC (.sl 7 2 0 n)), (19, DV (vGames games)), (20, DV (vInt games.length)), (21, DV (vInt (i + 1 : Nat)))] := ⟨show 1 < 3 by omega, show ∀ p ∈ caps, p.1 < 3 from fun q hq => by
      rcases hcaps with rfl | rfl
      · simp at hq
      · simp at hq; subst hq; omega, show 2 < 3 by omega, trivial, trivial, trivial, trivial⟩
    have hsucc : Tb (i + 1) = if p games[i] = true then addGame' u (Tb i) games[i] else Tb i := tableBy_succ _ _ _ _ _ hlt
    simp -implicitDefEqProofs only [go_sem, ↓reduceIte, Nat.reduceEqDiff, Nat.reduceAdd, Nat.reduceLeDiff, List.getElem?_eq_getElem hlt]
    simp only [eGame]
    simp -implicitDefEqProofs only [go_sem, ↓reduceIte, Nat.reduceEqDiff, Nat.reduceAdd, Nat.reduceLeDiff]
    refine (implGoalsOf games[i]).callp (.vs (eGame games[i]) .nil) ?_
    simp -implicitDefEqProofs only [go_sem, ↓reduceIte, Nat.reduceEqDiff, Nat.reduceAdd, Nat.reduceLeDiff, dGoals]
    cases h1 : (goals games[i]).2.2
    · simp -implicitDefEqProofs only [go_sem, ↓reduceIte, Nat.reduceEqDiff, Nat.reduceAdd, Nat.reduceLeDiff, w64s (show i < 4611686018427387904 by omega)]
      have hTi : Tb (i + 1) = Tb i := by rw [hsucc]; split <;> simp [addGame', h1]
      exact next_drop (i + 1) [_] (by omega) (by omega) (hwf _) (by simp) ⟨rfl, rfl, rfl, rfl, rfl, rfl, trivial⟩ hl3 (by rw [hTi]; rfl)
    simp -implicitDefEqProofs only [go_sem, ↓reduceIte, Nat.reduceEqDiff, Nat.reduceAdd, Nat.reduceLeDiff]
    refine ⟨hf, handKeep [0] (hc games[i] (List.getElem_mem hlt)) (by simp) rfl (fun j b' hj => ?_) ?_ ?_⟩
    · match j, hj with
      | 0, hj => cases hj; exact ⟨⟨ys, rfl⟩, rfl⟩
      | j + 1, hj => simp at hj
    · refine ⟨VwM.ren (pure_leT (x := .agg ((eGame games[i]).map .v)) ⟨_, rfl⟩) (pure_lt (x := .agg ((eGame games[i]).map .v)) ⟨_, rfl⟩), ?_⟩
      rcases hcaps with rfl | rfl
      · trivial
      · exact ⟨VwM.ren (.inr rfl) Nat.zero_lt_one, trivial⟩
    cases h2 : p games[i]
    · simp -implicitDefEqProofs only [go_sem, ↓reduceIte, Nat.reduceEqDiff, Nat.reduceAdd, Nat.reduceLeDiff, w64s (show i < 4611686018427387904 by omega)]
      have hTi : Tb (i + 1) = Tb i := by rw [hsucc, h2]; rfl
      exact next_drop (i + 1) [_] (by omega) (by omega) (hwf _) (by simp) ⟨rfl, rfl, rfl, rfl, rfl, rfl, trivial⟩ hl3 (by rw [hTi]; rfl)
    have hTi : Tb (i + 1) = addGame' u (Tb i) games[i] := by rw [hsucc, h2]; rfl
    simp only [gameOk, Bool.and_eq_true, inB_iff, Bool.not_eq_true', decide_eq_false_iff_not] at hgok
    obtain ⟨⟨⟨⟨⟨a1, a2⟩, a3⟩, a4⟩, a5⟩, _⟩ := hgok
    have hTl := hT i
    have hsmi := hsm i hi
    rw [addGame', if_pos h1] at hTi
    generalize Tb i = rows at *
    generalize games[i].home = gh at *
    generalize games[i].away = ga at *
    obtain ⟨a, rfl⟩ := Int.eq_ofNat_of_zero_le a2.1
    obtain ⟨b, rfl⟩ := Int.eq_ofNat_of_zero_le a3.1
    have hil : a < rows.length := by omega
    have hjl : b < rows.length := by omega
    have hij : a ≠ b := by omega
    have e0 : cOf eRow rows = cOf eRow ((rows.set a rows[a]).set b rows[b]) := by rw [List.set_getElem_self, List.set_getElem_self]
    rw [e0]
    have sx := hsmi _ (List.getElem_mem hil)
    have sy := hsmi _ (List.getElem_mem hjl)
    generalize hxe : rows[a] = x at sx ⊢
    generalize hye : rows[b] = y at sy ⊢
    have han : (a : Int) < n := by omega
    have hbn : (b : Int) < n := by omega
    obtain ⟨hx, hy⟩ := hgs
    generalize goals games[i] = gg at *
    obtain ⟨s, t, c⟩ := gg
    simp only at h1
    subst h1
    have hs1 : 0 ≤ s ∧ s ≤ 1000 ∧ 0 ≤ t ∧ t ≤ 1000 := by
      have e1 : (rowX u (s, t, true)).scored = s := by unfold rowX; split <;> first | rfl | (split <;> rfl)
      have e2 : (rowX u (s, t, true)).against = t := by unfold rowX; split <;> first | rfl | (split <;> rfl)
      have f1 := hx.5; have f2 := hx.6
      rw [e1] at f1; rw [e2] at f2
      exact ⟨f1.1, f1.2, f2.1, f2.2⟩
    have hu : (0 ≤ u.win ∧ u.win ≤ 10) ∧ (0 ≤ u.draw ∧ u.draw ≤ 10) ∧ 0 ≤ u.loss ∧ u.loss ≤ 10 := by
      simp only [rulesOk, Bool.and_eq_true, inB_iff] at hr
      obtain ⟨⟨⟨⟨r1, r2⟩, r3⟩, _⟩, _⟩ := hr
      omega
    obtain ⟨⟨x1, x1'⟩, ⟨x2, x2'⟩, ⟨x3, x3'⟩, ⟨x4, x4'⟩, ⟨x5, x5'⟩, ⟨x6, x6'⟩, ⟨x7, x7'⟩⟩ := sx
    obtain ⟨⟨y1, y1'⟩, ⟨y2, y2'⟩, ⟨y3, y3'⟩, ⟨y4, y4'⟩, ⟨y5, y5'⟩, ⟨y6, y6'⟩, ⟨y7, y7'⟩⟩ := sy
    have W : ∀ {z c : Int}, 0 ≤ z → z ≤ (1000 * i : Nat) → 0 ≤ c → c ≤ 1000 → IntKind.i64.wrap (z + c) = z + c := fun h1 h2 h3 h4 => w64 (by omega) (by omega)
    have g1 := W x1 x1' (by decide) (show (1 : Int) ≤ 1000 by decide)
    have g2 := W y1 y1' (by decide) (show (1 : Int) ≤ 1000 by decide)
    have g3 := W x5 x5' hs1.1 hs1.2.1
    have g4 := W x6 x6' hs1.2.2.1 hs1.2.2.2
    have g5 := W y5 y5' hs1.2.2.1 hs1.2.2.2
    have g6 := W y6 y6' hs1.1 hs1.2.1
    have fin : ∀ (ex : List Blk) (e : Env), subE [(4, DC (.ptr 1 0)), (3, DC (.fn g caps)), (9, DC (.sl 7 2 0 n)), (19, DV (vGames games)), (20, DV (vInt games.length)), (21, DV (vInt (i + 1 : Nat)))] e →
        nextK 1 (fun (i : Nat) => [(4, DC (.ptr 1 0)), (3, DC (.fn g caps)), (9, DC (.sl 7 2 0 n)), (19, DV (vGames games)), (20, DV (vInt games.length)), (21, DV (vInt i))]) (fun (i : Nat) => [.cells (ys.map .v), .cells ((eRules u).map .v), .cells (cOf eRow (Tb i))]) (fun (i : Nat) => games.length - i) (fun (i : Nat) => i ≤ games.length) i e ([.cells (ys.map .v), .cells ((eRules u).map .v), .cells (cOf eRow (Tb (i + 1)))] ++ ex) := fun ex e he =>
      next_drop (i + 1) ex (by omega) (by omega) (hwf _) (by simp) he hl3 rfl
    simp -implicitDefEqProofs only [go_sem, ↓reduceIte, Nat.reduceEqDiff, Nat.reduceAdd, Nat.reduceLeDiff, han, hbn, ↓twI_r0 hil hjl hij, ↓twJ_r0 hil hjl hij, ↓twI_w0 hil hjl hij, ↓twJ_w0 hil hjl hij, ↓twI_r1 hil hjl hij, ↓twJ_r1 hil hjl hij, ↓twI_w1 hil hjl hij, ↓twJ_w1 hil hjl hij, ↓twI_r2 hil hjl hij, ↓twJ_r2 hil hjl hij, ↓twI_w2 hil hjl hij, ↓twJ_w2 hil hjl hij, ↓twI_r3 hil hjl hij, ↓twJ_r3 hil hjl hij, ↓twI_w3 hil hjl hij, ↓twJ_w3 hil hjl hij, ↓twI_r4 hil hjl hij, ↓twJ_r4 hil hjl hij, ↓twI_w4 hil hjl hij, ↓twJ_w4 hil hjl hij, ↓twI_r5 hil hjl hij, ↓twJ_r5 hil hjl hij, ↓twI_w5 hil hjl hij, ↓twJ_w5 hil hjl hij, ↓twI_r6 hil hjl hij, ↓twJ_r6 hil hjl hij, ↓twI_w6 hil hjl hij, ↓twJ_w6 hil hjl hij]
    refine condA_dec (fun h => ?_) (fun h => ?_)
    · have k1 := W x2 x2' (by decide) (show (1 : Int) ≤ 1000 by decide)
      have k2 := W y4 y4' (by decide) (show (1 : Int) ≤ 1000 by decide)
      have k3 := W x7 x7' hu.1.1 (by omega)
      have k4 := W y7 y7' hu.2.2.1 (by omega)
      simp -implicitDefEqProofs only [go_sem, ↓reduceIte, Nat.reduceEqDiff, Nat.reduceAdd, Nat.reduceLeDiff, w64s (show i < 4611686018427387904 by omega), g1, g2, g3, g4, g5, g6, k1, k2, k3, k4, ↓twI_r0 hil hjl hij, ↓twJ_r0 hil hjl hij, ↓twI_w0 hil hjl hij, ↓twJ_w0 hil hjl hij, ↓twI_r1 hil hjl hij, ↓twJ_r1 hil hjl hij, ↓twI_w1 hil hjl hij, ↓twJ_w1 hil hjl hij, ↓twI_r2 hil hjl hij, ↓twJ_r2 hil hjl hij, ↓twI_w2 hil hjl hij, ↓twJ_w2 hil hjl hij, ↓twI_r3 hil hjl hij, ↓twJ_r3 hil hjl hij, ↓twI_w3 hil hjl hij, ↓twJ_w3 hil hjl hij, ↓twI_r4 hil hjl hij, ↓twJ_r4 hil hjl hij, ↓twI_w4 hil hjl hij, ↓twJ_w4 hil hjl hij, ↓twI_r5 hil hjl hij, ↓twJ_r5 hil hjl hij, ↓twI_w5 hil hjl hij, ↓twJ_w5 hil hjl hij, ↓twI_r6 hil hjl hij, ↓twJ_r6 hil hjl hij, ↓twI_w6 hil hjl hij, ↓twJ_w6 hil hjl hij]
      have ho : outcome (s, t, true) = 1 := by rw [outcome, if_neg (by simp), if_pos (by simpa using h)]
      have hT' : Tb (i + 1) = (rows.set a ⟨x.played + 1, x.wins + 1, x.draws, x.losses, x.scored + s, x.against + t, x.points + u.win⟩).set b ⟨y.played + 1, y.wins, y.draws, y.losses + 1, y.scored + t, y.against + s, y.points + u.loss⟩ := by
        rw [hTi]
        simp [rowX, rowY, ho, addRow, hil, hjl, hxe, hye]
      rw [← hT']
      exact fin [_] _ ⟨rfl, rfl, rfl, rfl, rfl, rfl, trivial⟩
    have hh := h
    simp -implicitDefEqProofs only [go_sem, ↓reduceIte, Nat.reduceEqDiff, Nat.reduceAdd, Nat.reduceLeDiff]
    refine condA_dec (fun h => ?_) (fun h => ?_)
    · have k1 := W y2 y2' (by decide) (show (1 : Int) ≤ 1000 by decide)
      have k2 := W x4 x4' (by decide) (show (1 : Int) ≤ 1000 by decide)
      have k3 := W y7 y7' hu.1.1 (by omega)
      have k4 := W x7 x7' hu.2.2.1 (by omega)
      simp -implicitDefEqProofs only [go_sem, ↓reduceIte, Nat.reduceEqDiff, Nat.reduceAdd, Nat.reduceLeDiff, w64s (show i < 4611686018427387904 by omega), g1, g2, g3, g4, g5, g6, k1, k2, k3, k4, ↓twI_r0 hil hjl hij, ↓twJ_r0 hil hjl hij, ↓twI_w0 hil hjl hij, ↓twJ_w0 hil hjl hij, ↓twI_r1 hil hjl hij, ↓twJ_r1 hil hjl hij, ↓twI_w1 hil hjl hij, ↓twJ_w1 hil hjl hij, ↓twI_r2 hil hjl hij, ↓twJ_r2 hil hjl hij, ↓twI_w2 hil hjl hij, ↓twJ_w2 hil hjl hij, ↓twI_r3 hil hjl hij, ↓twJ_r3 hil hjl hij, ↓twI_w3 hil hjl hij, ↓twJ_w3 hil hjl hij, ↓twI_r4 hil hjl hij, ↓twJ_r4 hil hjl hij, ↓twI_w4 hil hjl hij, ↓twJ_w4 hil hjl hij, ↓twI_r5 hil hjl hij, ↓twJ_r5 hil hjl hij, ↓twI_w5 hil hjl hij, ↓twJ_w5 hil hjl hij, ↓twI_r6 hil hjl hij, ↓twJ_r6 hil hjl hij, ↓twI_w6 hil hjl hij, ↓twJ_w6 hil hjl hij]
      have ho : outcome (s, t, true) = 3 := by rw [outcome, if_neg (by simp), if_neg (by simpa using hh), if_neg (by simp only; omega)]
      have hT' : Tb (i + 1) = (rows.set a ⟨x.played + 1, x.wins, x.draws, x.losses + 1, x.scored + s, x.against + t, x.points + u.loss⟩).set b ⟨y.played + 1, y.wins + 1, y.draws, y.losses, y.scored + t, y.against + s, y.points + u.win⟩ := by
        rw [hTi]
        simp [rowX, rowY, ho, addRow, hil, hjl, hxe, hye]
      rw [← hT']
      exact fin [_] _ ⟨rfl, rfl, rfl, rfl, rfl, rfl, trivial⟩
    · have k1 := W x3 x3' (by decide) (show (1 : Int) ≤ 1000 by decide)
      have k2 := W y3 y3' (by decide) (show (1 : Int) ≤ 1000 by decide)
      have k3 := W x7 x7' hu.2.1.1 (by omega)
      have k4 := W y7 y7' hu.2.1.1 (by omega)
      simp -implicitDefEqProofs only [go_sem, ↓reduceIte, Nat.reduceEqDiff, Nat.reduceAdd, Nat.reduceLeDiff, w64s (show i < 4611686018427387904 by omega), g1, g2, g3, g4, g5, g6, k1, k2, k3, k4, ↓twI_r0 hil hjl hij, ↓twJ_r0 hil hjl hij, ↓twI_w0 hil hjl hij, ↓twJ_w0 hil hjl hij, ↓twI_r1 hil hjl hij, ↓twJ_r1 hil hjl hij, ↓twI_w1 hil hjl hij, ↓twJ_w1 hil hjl hij, ↓twI_r2 hil hjl hij, ↓twJ_r2 hil hjl hij, ↓twI_w2 hil hjl hij, ↓twJ_w2 hil hjl hij, ↓twI_r3 hil hjl hij, ↓twJ_r3 hil hjl hij, ↓twI_w3 hil hjl hij, ↓twJ_w3 hil hjl hij, ↓twI_r4 hil hjl hij, ↓twJ_r4 hil hjl hij, ↓twI_w4 hil hjl hij, ↓twJ_w4 hil hjl hij, ↓twI_r5 hil hjl hij, ↓twJ_r5 hil hjl hij, ↓twI_w5 hil hjl hij, ↓twJ_w5 hil hjl hij, ↓twI_r6 hil hjl hij, ↓twJ_r6 hil hjl hij, ↓twI_w6 hil hjl hij, ↓twJ_w6 hil hjl hij]
      have ho : outcome (s, t, true) = 2 := by rw [outcome, if_neg (by simp), if_neg (by simpa using hh), if_pos (by simp only; omega)]
      have hT' : Tb (i + 1) = (rows.set a ⟨x.played + 1, x.wins, x.draws + 1, x.losses, x.scored + s, x.against + t, x.points + u.draw⟩).set b ⟨y.played + 1, y.wins, y.draws + 1, y.losses, y.scored + t, y.against + s, y.points + u.draw⟩ := by
        rw [hTi]
        simp [rowX, rowY, ho, addRow, hil, hjl, hxe, hye]
      rw [← hT']
      exact fin [_] _ ⟨rfl, rfl, rfl, rfl, rfl, rfl, trivial⟩
  · simp -implicitDefEqProofs only [go_sem, ↓reduceIte, Nat.reduceEqDiff, Nat.reduceAdd, Nat.reduceLeDiff]
    have hin : i = games.length := by omega
    refine finK_pickN [0, 2] [.cells (ys.map .v), .cells (cOf eRow (Tb i))] (DC (.sl 7 1 0 n)) (fun j hj => by cases j with | zero => rfl | succ j => simp at hj) (by simp) (by decide) rfl (fun j b' hj => ?_) (Or.inr rfl) (show 1 < 2 by omega) ⟨rfl, by rw [hin]; simp only [Tb, List.take_length]⟩
    match j, hj with
    | 0, hj => cases hj; exact ⟨⟨ys, rfl⟩, rfl⟩
    | 1, hj => cases hj; exact ⟨cOf_data _ _, rfl⟩
    | j + 2, hj => simp at hj

end Go.Proofs.YtneiicadhjdbiaaGreat.Ab

namespace Go.Proofs.YtneiicadhjdbiaaGreat.Ab
open Go

theorem AFun.weak {P : Program} {f : Nat} {ds : List D} {mem : List Blk} {Q0 Q : D → List Blk → Prop} (h : AFun P f ds mem Q0) (hq : ∀ d m, Q0 d m → ∃ d' m', WkD mem.length d m d' m' ∧ Q d' m') : AFun P f ds mem Q := by
  intro X σ w vs hm hr
  refine (h X σ w vs hm hr).mono ?_
  rintro e w' ⟨v, d, m', σ', rfl, hQ, hrep, hok, tr, hlen⟩
  obtain ⟨d', m'', hw, hQ'⟩ := hq d m' hQ
  obtain ⟨σ'', p1, p2, p3, p4⟩ := hw X σ' w' v hok hrep
  exact ⟨v, d', m'', σ'', rfl, hQ', p1, p2, tr.trans p3 (Nat.le_refl _), p4⟩

theorem AFun.toD {P : Program} {f : Nat} {ds : List D} {Q0 : D → List Blk → Prop} {d' : D} (h : AFun P f ds [] Q0) (hp : d'.pure) (hq : ∀ d m, Q0 d m → FzD m d d') : AFunD P f ds d' :=
  ⟨hp, h.weak fun d m hQ => ⟨d', [], WkD.fz (hq d m hQ), rfl, rfl⟩⟩

/-- A function that was walked with an empty block at hand does not need it. -/
theorem AFun.less {P : Program} {f : Nat} {ds : List D} {Q0 Q : D → List Blk → Prop} (h : AFun P f ds [.cells []] Q0) (hq : ∀ d m, Q0 d m → ∃ d' m', WkD 0 d m d' m' ∧ Q d' m') : AFun P f ds [] Q := by
  intro X σ w vs hm hr
  let σ0 : Sg := fun i => if i = 0 then some none else none
  have hσ0 : ∀ id b N, σ0 id ≠ some (some (b, N)) := fun id b N h => by
    simp only [σ0] at h; split at h <;> cases h
  have no0 : ∀ b, ¬ Own σ0 [.cells []] b := fun b ⟨id, cs, N, _, h2⟩ => hσ0 _ _ _ h2
  have noE : ∀ b, ¬ Own σ [] b := fun b ⟨id, cs, N, h1, _⟩ => by simp at h1
  have hm0 : MemOk X σ0 [.cells []] w := ⟨fun id cs hid => by
    cases id with
    | zero => cases hid; exact .inl ⟨rfl, rfl⟩
    | succ id => simp at hid, fun id id' b N N' cs cs' _ _ h3 => (hσ0 _ _ _ h3).elim, fun b hb => ⟨(hm.far b hb).1, no0 b⟩, fun id hid => by
    simp only [List.length_cons, List.length_nil] at hid
    exact if_neg (by omega)⟩
  have g : Chg σ (Lv X σ []) w σ0 (Lv X σ0 [.cells []]) w := ⟨fun id p hp => (by rw [hm.out id (Nat.zero_le _)] at hp; cases hp), Nat.le_refl _, fun b _ hL => ⟨fun hL' => hL'.elim (fun h => hL (.inl h)) fun h => no0 b h, rfl⟩⟩
  have hr0 : RepDs σ0 (Lv X σ0 [.cells []]) w vs ds := ⟨hr.1, fun i d hd => let ⟨u, h1, h2⟩ := hr.2 i d hd; ⟨u, h1, h2.mono g⟩⟩
  refine (h X σ0 w vs hm0 hr0).mono ?_
  rintro e w' ⟨v, d, m', σ', rfl, hQ, hrep, hok, tr, hlen⟩
  obtain ⟨d', m'', hw, hQ'⟩ := hq d m' hQ
  obtain ⟨σ'', p1, p2, p3, p4⟩ := hw X σ' w' v hok hrep
  have t := (tr.mono (Nat.zero_le _)).trans p3 (Nat.le_refl _)
  exact ⟨v, d', m'', σ'', rfl, hQ', p1, p2, ⟨fun id hid => absurd hid (Nat.not_lt_zero _), t.os, t.tape, t.output, t.size, fun b hb _ => t.keep b hb (no0 b), fun b hb => (t.own b hb).elim (fun h => (no0 b h).elim) .inr⟩, Nat.zero_le _⟩

theorem WkD.one {ys : List V} {b : Blk} {sz n : Nat} {d : D} (hd : d = DC (.sl sz 1 0 n)) : WkD 0 d [b, .cells (ys.map .v)] (DC (.sl sz 0 0 n)) [.cells (ys.map .v)] := by
  subst hd
  refine WkD.of [1] (fun i j hi hj he => ?_) (fun i b' hi => ?_) (.inr rfl) (show 0 < 1 from Nat.zero_lt_one)
  · simp at hi hj; omega
  · match i, hi with
    | 0, hi => cases hi; exact ⟨_, rfl, ltCs_vs ys, leCs_vs ys⟩
    | i + 1, hi => simp at hi

theorem rankerOfC1' (ys : List V) (g : Game) : AFun Tryz.prog F.impl_rankerOf_c1 [dGame g] [.cells (ys.map .v)] fun d m => d = DV (.bool true) ∧ m = [.cells (ys.map .v)] := by
  have hw : WfM [Blk.cells (ys.map .v)] := WfM.data fun b hb => by simp only [List.mem_cons, List.not_mem_nil, or_false] at hb; subst hb; exact ⟨ys, rfl⟩
  refine AFun.intro k_impl_rankerOf_c1 (by simp) ?_
  unfold c_impl_rankerOf_c1
  simp only [argE, Nat.reduceAdd]
  simp only [dGame, eGame]
  simp -implicitDefEqProofs only [go_sem, ↓reduceIte, Nat.reduceEqDiff, Nat.reduceAdd, Nat.reduceLeDiff]
  exact finK_drop (mem := [.cells (ys.map .v)]) hw trivial ⟨rfl, rfl⟩

/-- The table of all games. -/
def allRows (b : Book) : List Row := tableBy b.rules b.field.length (fun _ => true) b.games

theorem tableOfAll (b : Book) (hn : b.field.length ≤ 1048576) (hg : b.games.length ≤ 1000) (hok : ∀ g ∈ b.games, gameOk b.field.length g = true) (hr : rulesOk b.rules = true) :
    AFun Tryz.prog F.impl_tableOf [dRules b.rules, DV (vInt b.field.length), DV (vGames b.games), DC (.fn F.impl_rankerOf_c1 [])] [] fun d m => d = DC (.sl 7 0 0 b.field.length) ∧ m = [.cells (cOf eRow (allRows b))] := by
  refine AFun.less (implTableOf b.rules b.field.length b.games (ys := []) (p := fun _ => true) (.inl rfl) isFn_rankerOfC1 (fun x _ => ?_) hn hg hok hr) ?_
  · exact rankerOfC1' [] x
  · rintro _ _ ⟨rfl, rfl⟩
    exact ⟨_, _, WkD.one rfl, rfl, rfl⟩

theorem AFun.callw {P : Program} {m : List Blk} {K : D → List Blk → Prop} {Q0 : D → List Blk → Prop} {f : Nat} {ds ds0 : List D} {g : Bool} (h : AFun P f ds0 [] Q0) (hv : Vws m false ds ds0) (hq : ∀ d m', Q0 d m' → K (shD m.length d) (m ++ m'.map (shB m.length))) : AFunG P g f ds m K :=
  AFunG.frame h hv fun d m1 hd => ⟨fun h => (by cases h), hq d m1 hd⟩
theorem Vw.fn0 {mem : List Blk} {br : Bool} (f : Nat) : Vw mem br (DC (.fn f [])) (DC (.fn f [])) := fun X σ w v hm hr => by
  obtain ⟨vs, h1, h2, h3⟩ := hr
  exact ⟨vs, h1, h2, fun i p hp => by simp at hp⟩

theorem rdm_all {m : List Blk} {id : Nat} {cs : List C} {n : Nat} (h : m[id]? = some (.cells cs)) (hn : cs.length = n) : rdm m id 0 n = some cs := by
  unfold rdm
  rw [h]
  show (if 0 + n ≤ cs.length then some ((cs.drop 0).take n) else none) = some cs
  rw [if_pos (by omega), List.drop_zero, ← hn, List.take_length]
/-- Own elements, given up. -/
theorem Fz.cOf {α : Type} (f : α → List V) (sz : Nat) (hf : ∀ x, (f x).length = sz) (hpos : 0 < sz) {m : List Blk} {id : Nat} {l : List α} {n : Nat} (hm : m[id]? = some (.cells (Ab.cOf f l))) (hn : n = l.length) : Fz m (.sl sz id 0 n) (.ro sz (l.map f)) := by
  subst hn
  refine Fz.flat (rdm_all hm (flat_len f sz hf l)) (by simp) (fun c hc => ?_) hpos
  obtain ⟨x, _, rfl⟩ := List.mem_map.1 hc
  exact hf x

def dRanker (b : Book) : D := DA ((eBook b ++ [vRows (allRows b)]).map .v)
theorem eBook_eq (b : Book) : eBook b = [vTeams b.field, .int .i64 b.rules.win, .int .i64 b.rules.draw, .int .i64 b.rules.loss, vInts b.rules.ladder, .bool b.rules.again, vGames b.games, vInts b.fair, vInts b.taken] := rfl

theorem rankerOf (b : Book) (hn : b.field.length ≤ 1048576) (hg : b.games.length ≤ 1000) (hok : ∀ g ∈ b.games, gameOk b.field.length g = true) (hr : rulesOk b.rules = true) : AFunD Tryz.prog F.impl_rankerOf [dBook b] (dRanker b) := by
  refine AFunD.intro k_impl_rankerOf (by simp) (D.pure_vs _) ?_
  unfold c_impl_rankerOf
  simp only [argE, Nat.reduceAdd, dBook, eBook_eq]
  simp -implicitDefEqProofs only [go_sem, ↓reduceIte, Nat.reduceEqDiff, Nat.reduceAdd, Nat.reduceLeDiff, vTeams, vGames, vInt]
  refine (tableOfAll b hn hg hok hr).callw ⟨Vw.agg (VwCs.vs (eRules b.rules)), Vw.v _, Vw.v _, Vw.fn0 _, trivial⟩ ?_
  rintro _ _ ⟨rfl, rfl⟩
  simp -implicitDefEqProofs only [go_sem, ↓reduceIte, Nat.reduceEqDiff, Nat.reduceAdd, Nat.reduceLeDiff]
  refine finK_fz (FzD.agg (ys := eBook b ++ [vRows (allRows b)]) ⟨.v _, .v _, .v _, .v _, .v _, .v _, .v _, .v _, .v _, ?_, trivial⟩) ⟨rfl, rfl⟩
  exact Fz.cOf eRow 7 (fun _ => rfl) (by omega) rfl (by rw [allRows, tableBy_len])

theorem among (l : List Int) : AFun Tryz.prog F.impl_among [DV (vInts l)] [] fun d m => d = DC (.fn F.impl_among_c1 [(0, 0)]) ∧ m = [.cells [.v (vInts l)]] := by
  refine AFun.intro k_impl_among (by simp) ?_
  unfold c_impl_among
  simp only [argE, Nat.reduceAdd]
  simp -implicitDefEqProofs only [go_sem, ↓reduceIte, Nat.reduceEqDiff, Nat.reduceAdd, Nat.reduceLeDiff]
  exact finK_refl (Nat.zero_le _) ⟨rfl, rfl⟩

end Go.Proofs.YtneiicadhjdbiaaGreat.Ab

namespace Go.Proofs.YtneiicadhjdbiaaGreat.Ab
open Go

structure Good (b : Book) : Prop where
  two : 2 ≤ b.field.length
  field : b.field.length ≤ 8
  seed : ∀ t ∈ b.field, 1 ≤ t.seed ∧ t.seed ≤ 8
  ladder : b.rules.ladder.length ≤ 8
  rules : rulesOk b.rules = true
  games : b.games.length ≤ 60
  game : ∀ g ∈ b.games, gameOk b.field.length g = true
  fair : b.fair.length = b.field.length
  fairs : ∀ x ∈ b.fair, 0 ≤ x ∧ x ≤ 1000
  taken : b.taken.length = b.field.length
  takens : ∀ x ∈ b.taken, 0 ≤ x ∧ x ≤ 1000

theorem all_range_at {f : Nat → Bool} {n i : Nat} (h : (List.range n).all f = true) (hi : i < n) : f i = true := List.all_eq_true.1 h i (List.mem_range.2 hi)

theorem pensOk_mem {l : List Int} {n : Nat} (h : pensOk l n = true) : l.length = n ∧ ∀ x ∈ l, 0 ≤ x ∧ x ≤ 1000 := by
  simp only [pensOk, Bool.and_eq_true, decide_eq_true_eq] at h
  obtain ⟨h1, h2⟩ := h
  refine ⟨h1, fun x hx => ?_⟩
  obtain ⟨i, hi, rfl⟩ := List.getElem_of_mem hx
  have := all_range_at h2 (show i < n by omega)
  simp only [penAt, List.getElem?_eq_getElem hi, Option.all_some, inB_iff] at this
  exact this

theorem seasonOk_mem {l : List Game} {n : Int} (h : seasonOk n l = true) : l.length ≤ 60 ∧ ∀ g ∈ l, gameOk n g = true := by
  simp only [seasonOk, Bool.and_eq_true, decide_eq_true_eq] at h
  obtain ⟨h1, h2⟩ := h
  refine ⟨h1, fun x hx => ?_⟩
  obtain ⟨i, hi, rfl⟩ := List.getElem_of_mem hx
  have := all_range_at h2 hi
  simp only [seasonAt, List.getElem?_eq_getElem hi, Option.all_some, Bool.and_eq_true] at this
  exact this.1

theorem Good.of {b : Book} (h : bookOk b = true) : Good b := by
  simp only [bookOk, Bool.and_eq_true] at h
  obtain ⟨⟨⟨⟨h1, h2⟩, h3⟩, h4⟩, h5⟩ := h
  obtain ⟨a1, a2⟩ := pensOk_mem h4
  obtain ⟨b1, b2⟩ := pensOk_mem h5
  obtain ⟨c1, c2⟩ := seasonOk_mem h3
  have hf := h1
  simp only [fieldOk, Bool.and_eq_true, inB_iff] at hf
  obtain ⟨⟨f1, f2⟩, f3⟩ := hf
  have hr := h2
  simp only [rulesOk, Bool.and_eq_true, inB_iff] at hr
  refine ⟨by omega, by omega, fun t ht => ?_, by omega, h2, c1, c2, a1, a2, b1, b2⟩
  obtain ⟨i, hi, rfl⟩ := List.getElem_of_mem ht
  have := all_range_at f3 hi
  simp only [teamAt, List.getElem?_eq_getElem hi, Option.all_some, Bool.and_eq_true, teamOk, inB_iff] at this
  exact this.1.2

theorem Good.rows {b : Book} (h : Good b) (p : Game → Bool) : ∀ r ∈ tableBy b.rules b.field.length p b.games, r.Sm 60000 := by
  have : ∀ i, i ≤ b.games.length → ∀ r ∈ tableBy b.rules b.field.length p (b.games.take i), r.Sm (1000 * i : Nat) := by
    intro i
    induction i with
    | zero => intro _ r hr; simp only [tableBy, List.take_zero, List.foldl_nil] at hr; rw [List.eq_of_mem_replicate hr]; exact zeroRow_sm (by simp)
    | succ i ih =>
      intro hi r hr'
      have hlt : i < b.games.length := hi
      rw [tableBy_succ _ _ _ _ _ hlt] at hr'
      split at hr'
      · have := addGame'_sm (by omega) (ih (by omega)) (goals_small (h.game _ (List.getElem_mem hlt)) h.rules) r hr'
        exact this.mono (by omega)
      · exact (ih (by omega) r hr').mono (by omega)
  have h1 := this b.games.length (Nat.le_refl _)
  rw [List.take_length] at h1
  have h2 := h.games
  exact fun r hr => (h1 r hr).mono (by omega)

/-- Numbers filled in from the left. -/
def fillI (vals : List Int) (i : Nat) : List Int := vals.take i ++ List.replicate (vals.length - i) 0
theorem fillI_len (vals : List Int) {i : Nat} (hi : i ≤ vals.length) : (fillI vals i).length = vals.length := by simp [fillI]; omega
theorem fillI_set (vals : List Int) {i : Nat} (hi : i < vals.length) : (fillI vals i).set i vals[i] = fillI vals (i + 1) := by
  have e : vals.length - i = (vals.length - (i + 1)) + 1 := by omega
  rw [fillI, fillI, e, List.replicate_succ, List.set_append_right _ _ (by simp; omega), List.length_take, Nat.min_eq_left (by omega), Nat.sub_self, List.set_cons_zero, List.take_succ_eq_append_getElem hi, List.append_assoc]
  rfl
theorem fillI_all (vals : List Int) : fillI vals vals.length = vals := by simp [fillI]
theorem fillI_zero (vals : List Int) : cOf eInt (fillI vals 0) = manyC vals.length [.v (.int .i64 0)] := by
  rw [fillI, List.take_zero, List.nil_append, Nat.sub_zero]
  generalize vals.length = n
  induction n with
  | zero => rfl
  | succ n ih => rw [List.replicate_succ, show (0 : Int) :: List.replicate n 0 = [0] ++ List.replicate n 0 from rfl, cOf_append, cOf_one, ih]; rfl

theorem wrI {m : List Blk} {id i : Nat} {l : List Int} (hm : m[id]? = some (.cells (cOf eInt l))) (hi : i < l.length) (x : Int) : wrm m id (0 + i * 1) 1 [.v (.int .i64 x)] = some (m.set id (.cells (cOf eInt (l.set i x)))) := by
  rw [Nat.zero_add]
  exact wrm_fld eInt 1 (fun _ => rfl) hm i hi 0 (by omega) x _ rfl
theorem rdI {m : List Blk} {id i : Nat} {l : List Int} (hm : m[id]? = some (.cells (cOf eInt l))) (hi : i < l.length) : rdm m id (0 + i * 1) 1 = some [.v (.int .i64 l[i])] := by
  rw [Nat.zero_add]
  exact rdm_fld eInt 1 (fun _ => rfl) hm i hi 0 (by omega) _ rfl

end Go.Proofs.YtneiicadhjdbiaaGreat.Ab

namespace Go.Proofs.YtneiicadhjdbiaaGreat.Ab
open Go

theorem valuesOf_get (b : Book) (key : Int) (group : List Int) (i : Nat) (hi : i < (valuesOf b key group).length) : (valuesOf b key group)[i] = keyVal b (tableBy b.rules b.field.length (inGroup group (!isMutual key)) b.games) key i := by
  simp [valuesOf]

theorem getD_of {α : Type} {l : List α} {i : Nat} (h : i < l.length) (d : α) : l.getD i d = l[i] := by simp [h]

theorem wrI' {m : List Blk} {id i : Nat} {l : List Int} (hm : m[id]? = some (.cells (cOf eInt l))) (hi : i < l.length) (x : Int) : wrm m id (i * 1) 1 [.v (.int .i64 x)] = some (m.set id (.cells (cOf eInt (l.set i x)))) :=
  wrm_fld eInt 1 (fun _ => rfl) hm i hi 0 (by omega) x _ rfl
theorem shD_fn (n f : Nat) (caps : List (Nat × Nat)) : shD n (DC (.fn f caps)) = DC (.fn f (caps.map fun p => (p.1 + n, p.2))) := rfl

theorem fillI_same (vals : List Int) {i : Nat} (hi : i < vals.length) : (fillI vals i).set i 0 = fillI vals i := by
  have e : vals.length - i = (vals.length - (i + 1)) + 1 := by omega
  rw [fillI, e, List.replicate_succ, List.set_append_right _ _ (by simp; omega), List.length_take, Nat.min_eq_left (by omega), Nat.sub_self, List.set_cons_zero]

theorem implValues (b : Book) (hb : Good b) (key : Int) (group : List Int) (hgr : group.length < 4611686018427387904) : AFunD Tryz.prog F.impl_ranker_values [dRanker b, DV (vInt key), DV (vInts group)] (DV (vInts (valuesOf b key group))) := by
  have hn := hb.field
  have hvl := valuesOf_len b key group
  refine AFunD.intro k_impl_ranker_values (by simp) ?pure ?_
  case pure => first | exact D.pure_v _ | exact D.pure_vs _
  unfold c_impl_ranker_values
  simp only [argE, Nat.reduceAdd]
  simp only [dRanker, eBook_eq]
  simp -implicitDefEqProofs only [go_sem, ↓reduceIte, Nat.reduceEqDiff, Nat.reduceAdd, Nat.reduceLeDiff, vTeams, vInt]
  refine ⟨Int.le_refl _, by omega, by omega, ?_⟩
  refine (implIsMutual key).callp (.v _ .nil) ?_
  rw [show manyC b.field.length [C.v (V.int IntKind.i64 0)] = cOf eInt (fillI (valuesOf b key group) 0) by rw [fillI_zero, hvl]]
  cases hm : isMutual key
  · have hp : inGroup group (!isMutual key) = fun _ => true := by funext g; simp [inGroup, hm]
    have hval : ∀ i (hi : i < (valuesOf b key group).length), (valuesOf b key group)[i] = keyVal b (allRows b) key i := fun i hi => by rw [valuesOf_get, hp]; rfl
    generalize valuesOf b key group = vals at *
    simp -implicitDefEqProofs only [go_sem, ↓reduceIte, Nat.reduceEqDiff, Nat.reduceAdd, Nat.reduceLeDiff]
    refine loop_st (S := Nat) (fun i => [(3, DC (.ptr 0 0)), (1, DV (vInt key)), (7, DC (.sl 1 1 0 b.field.length)), (8, DV (vRows (allRows b))), (33, DV (vInt b.field.length)), (34, DV (vInt i))]) (fun i => [.cells ((eBook b ++ [vRows (allRows b)]).map .v), .cells (cOf eInt (fillI vals i))]) (fun i => b.field.length - i) (fun i => i ≤ b.field.length) 0 (Nat.zero_le _)
      ⟨rfl, rfl, rfl, rfl, rfl, rfl, trivial⟩ rfl (Nat.zero_le _) ?_
    intro i hi
    simp only [eBook_eq]
    simp -implicitDefEqProofs only [go_sem, ↓reduceIte, Nat.reduceEqDiff, Nat.reduceAdd, Nat.reduceLeDiff, vInt]
    refine condA_dec (fun h => ?_) (fun h => ?_)
    · have hlt : i < b.field.length := by omega
      have hrl : (allRows b).length = b.field.length := tableBy_len _ _ _ _
      have hri : i < (allRows b).length := by omega
      have hvi : i < vals.length := by omega
      have hti : i < b.taken.length := by rw [hb.taken]; exact hlt
      have hfi : i < b.fair.length := by rw [hb.fair]; exact hlt
      have sr := hb.rows (fun _ => true) _ (List.getElem_mem hri)
      have st := hb.takens _ (List.getElem_mem hti)
      have sf := hb.fairs _ (List.getElem_mem hfi)
      have ss := hb.seed _ (List.getElem_mem hlt)
      have hset : ∀ x, keyVal b (allRows b) key i = x → (fillI vals i).set i x = fillI vals (i + 1) := fun x hx => by rw [← fillI_set vals hvi, hval i hvi, hx]
      simp only [keyVal, getD_of hri, getD_of hti, getD_of hfi, getD_of hlt] at hset
      have hw := fun (B : Blk) (x : Int) => wrI (m := [B, .cells (cOf eInt (fillI vals i))]) (id := 1) rfl (i := i) (by rw [fillI_len _ (by omega)]; omega) x
      have nxt : ∀ e : Env, subE [(3, DC (.ptr 0 0)), (1, DV (vInt key)), (7, DC (.sl 1 1 0 b.field.length)), (8, DV (vRows (allRows b))), (33, DV (vInt b.field.length)), (34, DV (vInt (i + 1 : Nat)))] e →
          nextK 0 (fun (i : Nat) => [(3, DC (.ptr 0 0)), (1, DV (vInt key)), (7, DC (.sl 1 1 0 b.field.length)), (8, DV (vRows (allRows b))), (33, DV (vInt b.field.length)), (34, DV (vInt i))]) (fun (i : Nat) => [.cells ((eBook b ++ [vRows (allRows b)]).map .v), .cells (cOf eInt (fillI vals i))]) (fun (i : Nat) => b.field.length - i) (fun (i : Nat) => i ≤ b.field.length) i e [.cells ((eBook b ++ [vRows (allRows b)]).map .v), .cells (cOf eInt (fillI vals (i + 1)))] :=
        fun e he => next_of (i + 1) (by omega) (by omega) (Nat.zero_le _) he rfl
      have hlt' : (i : Int) < b.field.length := by omega
      have h64 := w64s (show i < 4611686018427387904 by omega)
      simp only [isMutual, Bool.or_eq_false_iff, decide_eq_false_iff_not] at hm
      obtain ⟨m5, m6⟩ := hm
      obtain ⟨⟨x1, x1'⟩, ⟨x2, x2'⟩, ⟨x3, x3'⟩, ⟨x4, x4'⟩, ⟨x5, x5'⟩, ⟨x6, x6'⟩, ⟨x7, x7'⟩⟩ := sr
      generalize htb : (allRows b)[i] = r at *
      by_cases n1 : key = 1
      · subst n1
        simp -implicitDefEqProofs only [go_sem, ↓reduceIte, Nat.reduceEqDiff, Nat.reduceAdd, Nat.reduceLeDiff, Int.reduceEq, vRows, List.getElem?_eq_getElem hri, htb, hlt', ↓hw, h64, eRow, w64 (x := r.points - b.taken[i]) (by omega) (by omega), List.getElem?_eq_getElem hti, vInts]
        rw [hset _ (by simp)]
        exact nxt _ ⟨rfl, rfl, rfl, rfl, rfl, rfl, trivial⟩
      by_cases n2 : key = 2
      · subst n2
        simp -implicitDefEqProofs only [go_sem, ↓reduceIte, Nat.reduceEqDiff, Nat.reduceAdd, Nat.reduceLeDiff, Int.reduceEq, vRows, List.getElem?_eq_getElem hri, htb, hlt']
        refine (implDifferenceOf r ⟨⟨x1, by omega⟩, ⟨x2, by omega⟩, ⟨x3, by omega⟩, ⟨x4, by omega⟩, ⟨x5, by omega⟩, ⟨x6, by omega⟩, ⟨x7, by omega⟩⟩).callp (.vs _ .nil) ?_
        simp -implicitDefEqProofs only [go_sem, ↓reduceIte, Nat.reduceEqDiff, Nat.reduceAdd, Nat.reduceLeDiff, hlt', ↓hw, h64]
        rw [hset _ (by simp)]
        exact nxt _ ⟨rfl, rfl, rfl, rfl, rfl, rfl, trivial⟩
      by_cases n3 : key = 3
      · subst n3
        simp -implicitDefEqProofs only [go_sem, ↓reduceIte, Nat.reduceEqDiff, Nat.reduceAdd, Nat.reduceLeDiff, Int.reduceEq, vRows, List.getElem?_eq_getElem hri, htb, hlt', ↓hw, h64, eRow]
        rw [hset _ (by simp)]
        exact nxt _ ⟨rfl, rfl, rfl, rfl, rfl, rfl, trivial⟩
      by_cases n4 : key = 4
      · subst n4
        simp -implicitDefEqProofs only [go_sem, ↓reduceIte, Nat.reduceEqDiff, Nat.reduceAdd, Nat.reduceLeDiff, Int.reduceEq, vRows, List.getElem?_eq_getElem hri, htb, hlt', ↓hw, h64, eRow]
        rw [hset _ (by simp)]
        exact nxt _ ⟨rfl, rfl, rfl, rfl, rfl, rfl, trivial⟩
      by_cases n7 : key = 7
      · subst n7
        simp -implicitDefEqProofs only [go_sem, ↓reduceIte, Nat.reduceEqDiff, Nat.reduceAdd, Nat.reduceLeDiff, Int.reduceEq, vRows, List.getElem?_eq_getElem hri, htb, hlt', ↓hw, h64, eRow, w64 (x := 0 - b.fair[i]) (by omega) (by omega), List.getElem?_eq_getElem hfi, vInts]
        rw [hset _ (by simp)]
        exact nxt _ ⟨rfl, rfl, rfl, rfl, rfl, rfl, trivial⟩
      by_cases n8 : key = 8
      · subst n8
        simp -implicitDefEqProofs only [go_sem, ↓reduceIte, Nat.reduceEqDiff, Nat.reduceAdd, Nat.reduceLeDiff, Int.reduceEq, vRows, List.getElem?_eq_getElem hri, htb, hlt', ↓hw, h64, eRow, w64 (x := 0 - b.field[i].seed) (by omega) (by omega), List.getElem?_eq_getElem hlt, vTeams, eTeam]
        rw [hset _ (by simp)]
        exact nxt _ ⟨rfl, rfl, rfl, rfl, rfl, rfl, trivial⟩
      simp -implicitDefEqProofs only [go_sem, ↓reduceIte, Nat.reduceEqDiff, Nat.reduceAdd, Nat.reduceLeDiff, n1, n2, n3, n4, m5, m6, n7, n8, h64]
      rw [show fillI vals i = fillI vals (i + 1) from by
        rw [← hset 0 (by simp [n1, n2, n3, n4, m5, m6, n7, n8]), fillI_same vals hvi]]
      exact nxt _ ⟨rfl, rfl, rfl, rfl, rfl, rfl, trivial⟩
    · simp -implicitDefEqProofs only [go_sem, ↓reduceIte, Nat.reduceEqDiff, Nat.reduceAdd, Nat.reduceLeDiff]
      have hin : i = b.field.length := by omega
      rw [show fillI vals i = vals from by rw [hin, ← hvl, fillI_all]]
      exact finK_fz (FzD.c (Fz.cOf eInt 1 (fun _ => rfl) (by omega) (l := vals) rfl hvl.symm)) ⟨rfl, rfl⟩
  · have hn1 : b.field.length ≤ 1048576 := by omega
    have hg1 : b.games.length ≤ 1000 := by have := hb.games; omega
    have htab := implTableOf b.rules b.field.length b.games (ys := [vInts group]) (p := inGroup group false) (.inr rfl) isFn_amongC1 (fun x _ => amongC1 group x hgr) hn1 hg1 hb.game hb.rules
    simp -implicitDefEqProofs only [go_sem, ↓reduceIte, Nat.reduceEqDiff, Nat.reduceAdd, Nat.reduceLeDiff]
    refine (among group).callp (.v _ .nil) ?_
    rintro _ _ ⟨rfl, rfl⟩
    simp -implicitDefEqProofs only [go_sem, ↓reduceIte, Nat.reduceEqDiff, Nat.reduceAdd, Nat.reduceLeDiff, shD_fn]
    refine AFunG.hand (br := false) [2] htab (by simp) rfl (fun j b' hj => ?_) ⟨VwM.ren (pure_leT (x := .agg ((eRules b.rules).map .v)) ⟨_, rfl⟩) (pure_lt (x := .agg ((eRules b.rules).map .v)) ⟨_, rfl⟩), VwM.ren (.inr rfl) trivial, VwM.ren (.inr rfl) trivial,
      VwM.ren (d0 := DC (.fn F.impl_among_c1 [(0, 0)])) (.inr rfl) (fun p hp => by simp at hp; subst hp; exact Nat.zero_lt_one), trivial⟩ (fun d m1 hd hl => ⟨fun h => (by cases h), ?_⟩)
    · match j, hj with
      | 0, hj => cases hj; exact ⟨_, rfl, ltCs_vs _, leCs_vs [vInts group]⟩
      | j + 1, hj => simp at hj
    obtain ⟨rfl, rfl⟩ := hd
    have hrows : (cOf eRow (tableBy b.rules b.field.length (inGroup group false) b.games)).map (renC (rnm [2] 3)) = cOf eRow (tableBy b.rules b.field.length (inGroup group false) b.games) := renC_vs _ _
    simp only [List.map_cons, List.map_nil, renB, renC, hrows, setB, List.length_cons, List.length_nil, Nat.reduceAdd, List.drop_succ_cons, List.drop_zero, List.set_cons_succ, List.set_cons_zero, List.cons_append, List.nil_append]
    show putK _ _ _ (DC (.sl 7 3 0 b.field.length)) _
    have hp : inGroup group (!isMutual key) = inGroup group false := by rw [hm]; rfl
    have hval : ∀ i (hi : i < (valuesOf b key group).length), (valuesOf b key group)[i] = keyVal b (tableBy b.rules b.field.length (inGroup group false) b.games) key i := fun i hi => by rw [valuesOf_get, hp]
    have hrows := hb.rows (inGroup group false)
    have hrl : (tableBy b.rules b.field.length (inGroup group false) b.games).length = b.field.length := tableBy_len _ _ _ _
    generalize valuesOf b key group = vals at *
    generalize tableBy b.rules b.field.length (inGroup group false) b.games = rows at *
    simp -implicitDefEqProofs only [go_sem, ↓reduceIte, Nat.reduceEqDiff, Nat.reduceAdd, Nat.reduceLeDiff]
    refine loop_st (S := Nat) (fun i => [(1, DV (vInt key)), (7, DC (.sl 1 1 0 b.field.length)), (8, DC (.sl 7 3 0 b.field.length)), (33, DV (vInt b.field.length)), (34, DV (vInt i))]) (fun i => [.cells ((eBook b ++ [vRows (allRows b)]).map .v), .cells (cOf eInt (fillI vals i)), .cells [.v (vInts group)], .cells (cOf eRow rows)]) (fun i => b.field.length - i) (fun i => i ≤ b.field.length) 0 (Nat.zero_le _)
      ⟨rfl, rfl, rfl, rfl, rfl, trivial⟩ rfl (Nat.zero_le _) ?_
    intro i hi
    simp only [eBook_eq]
    simp -implicitDefEqProofs only [go_sem, ↓reduceIte, Nat.reduceEqDiff, Nat.reduceAdd, Nat.reduceLeDiff, vInt]
    refine condA_dec (fun h => ?_) (fun h => ?_)
    · have hlt : i < b.field.length := by omega
      have hri : i < rows.length := by omega
      have hvi : i < vals.length := by omega
      have sr := hrows _ (List.getElem_mem hri)
      have hset : ∀ x, keyVal b rows key i = x → (fillI vals i).set i x = fillI vals (i + 1) := fun x hx => by rw [← fillI_set vals hvi, hval i hvi, hx]
      simp only [keyVal, getD_of hri] at hset
      have hw := fun (A B C : Blk) (x : Int) => wrI' (m := [A, .cells (cOf eInt (fillI vals i)), B, C]) (id := 1) rfl (i := i) (by rw [fillI_len _ (by omega)]; omega) x
      have nxt : ∀ e : Env, subE [(1, DV (vInt key)), (7, DC (.sl 1 1 0 b.field.length)), (8, DC (.sl 7 3 0 b.field.length)), (33, DV (vInt b.field.length)), (34, DV (vInt (i + 1 : Nat)))] e →
          nextK 0 (fun (i : Nat) => [(1, DV (vInt key)), (7, DC (.sl 1 1 0 b.field.length)), (8, DC (.sl 7 3 0 b.field.length)), (33, DV (vInt b.field.length)), (34, DV (vInt i))]) (fun (i : Nat) => [.cells ((eBook b ++ [vRows (allRows b)]).map .v), .cells (cOf eInt (fillI vals i)), .cells [.v (vInts group)], .cells (cOf eRow rows)]) (fun (i : Nat) => b.field.length - i) (fun (i : Nat) => i ≤ b.field.length) i e [.cells ((eBook b ++ [vRows (allRows b)]).map .v), .cells (cOf eInt (fillI vals (i + 1))), .cells [.v (vInts group)], .cells (cOf eRow rows)] :=
        fun e he => next_of (i + 1) (by omega) (by omega) (Nat.zero_le _) he rfl
      have hlt' : (i : Int) < b.field.length := by omega
      have h64 := w64s (show i < 4611686018427387904 by omega)
      have hr7 := fun (A B C : Blk) => rdm_elem eRow 7 (fun _ => rfl) (m := [A, B, C, .cells (cOf eRow rows)]) (id := 3) rfl i hri
      have hr1 := fun (A B C : Blk) => rdm_fld eRow 7 (fun _ => rfl) (m := [A, B, C, .cells (cOf eRow rows)]) (id := 3) rfl i hri 6 (by omega) _ rfl
      obtain ⟨⟨x1, x1'⟩, ⟨x2, x2'⟩, ⟨x3, x3'⟩, ⟨x4, x4'⟩, ⟨x5, x5'⟩, ⟨x6, x6'⟩, ⟨x7, x7'⟩⟩ := sr
      generalize htb : rows[i] = r at *
      simp only [isMutual, Bool.or_eq_true, decide_eq_true_eq] at hm
      rcases hm with rfl | rfl
      · simp -implicitDefEqProofs only [go_sem, ↓reduceIte, Nat.reduceEqDiff, Nat.reduceAdd, Nat.reduceLeDiff, Int.reduceEq, hlt', ↓hw, h64, Nat.zero_add, ↓hr1]
        rw [hset _ (by simp)]
        exact nxt _ ⟨rfl, rfl, rfl, rfl, rfl, trivial⟩
      · simp -implicitDefEqProofs only [go_sem, ↓reduceIte, Nat.reduceEqDiff, Nat.reduceAdd, Nat.reduceLeDiff, Int.reduceEq, hlt', ↓hw, h64, Nat.zero_add, ↓hr7]
        refine (implDifferenceOf r ⟨⟨x1, by omega⟩, ⟨x2, by omega⟩, ⟨x3, by omega⟩, ⟨x4, by omega⟩, ⟨x5, by omega⟩, ⟨x6, by omega⟩, ⟨x7, by omega⟩⟩).callp (.vs _ .nil) ?_
        simp -implicitDefEqProofs only [go_sem, ↓reduceIte, Nat.reduceEqDiff, Nat.reduceAdd, Nat.reduceLeDiff, hlt', ↓hw, h64, Nat.zero_add]
        rw [hset _ (by simp)]
        exact nxt _ ⟨rfl, rfl, rfl, rfl, rfl, trivial⟩
    · simp -implicitDefEqProofs only [go_sem, ↓reduceIte, Nat.reduceEqDiff, Nat.reduceAdd, Nat.reduceLeDiff]
      have hin : i = b.field.length := by omega
      rw [show fillI vals i = vals from by rw [hin, ← hvl, fillI_all]]
      exact finK_fz (FzD.c (Fz.cOf eInt 1 (fun _ => rfl) (by omega) (l := vals) rfl hvl.symm)) ⟨rfl, rfl⟩

end Go.Proofs.YtneiicadhjdbiaaGreat.Ab

namespace Go.Proofs.YtneiicadhjdbiaaGreat.Ab
open Go

theorem specValues (b : Book) (hb : Good b) (key : Int) (group : List Int) (hgr : group.length < 4611686018427387904) : AFunD Tryz.prog F.spec_l07Values [dBook b, DV (vInt key), DV (vInts group)] (DV (vInts (valuesOf b key group))) := by
  have hn := hb.field
  have hvl := valuesOf_len b key group
  have hn1 : b.field.length ≤ 1048576 := by omega
  have hg1 : b.games.length ≤ 1000 := by have := hb.games; omega
  have hval := valuesOf_get b key group
  have hrows := hb.rows (inGroup group (!isMutual key))
  have hrl : (tableBy b.rules b.field.length (inGroup group (!isMutual key)) b.games).length = b.field.length := tableBy_len _ _ _ _
  refine AFunD.intro k_spec_l07Values (by simp) ?pure ?_
  case pure => first | exact D.pure_v _ | exact D.pure_vs _
  unfold c_spec_l07Values
  simp only [argE, Nat.reduceAdd]
  simp only [dBook, eBook_eq]
  simp -implicitDefEqProofs only [go_sem, ↓reduceIte, Nat.reduceEqDiff, Nat.reduceAdd, Nat.reduceLeDiff, vTeams, vInt]
  refine (specIsMutual key).callp (.v _ .nil) ?_
  simp -implicitDefEqProofs only [go_sem, ↓reduceIte, Nat.reduceEqDiff, Nat.reduceAdd, Nat.reduceLeDiff]
  refine (l06Among b.rules b.field.length b.games group (!isMutual key) hn1 hg1 hgr hb.game hb.rules).callp (.vs (eRules b.rules) (.v _ (.v _ (.v _ (.v _ .nil))))) ?_
  rintro _ _ ⟨rfl, rfl⟩
  generalize valuesOf b key group = vals at *
  generalize tableBy b.rules b.field.length (inGroup group (!isMutual key)) b.games = rows at *
  simp -implicitDefEqProofs only [go_sem, ↓reduceIte, Nat.reduceEqDiff, Nat.reduceAdd, Nat.reduceLeDiff, shD_sl, shB_cells, shC_cOf]
  refine loop_st (S := Nat) (fun i => [(3, DC (.ptr 0 0)), (1, DV (vInt key)), (25, DC (.sl 7 1 0 b.field.length)), (8, DC (.sl 1 2 0 i)), (26, DV (vInt b.field.length)), (27, DV (vInt i))]) (fun i => [.cells ((eBook b).map .v), .cells (cOf eRow rows), .cells (cOf eInt (vals.take i))]) (fun i => b.field.length - i) (fun i => i ≤ b.field.length) 0 (Nat.zero_le _)
    ⟨rfl, rfl, rfl, rfl, rfl, rfl, trivial⟩ rfl (Nat.zero_le _) ?_
  intro i hi
  simp only [eBook_eq]
  simp -implicitDefEqProofs only [go_sem, ↓reduceIte, Nat.reduceEqDiff, Nat.reduceAdd, Nat.reduceLeDiff, vInt]
  refine condA_dec (fun h => ?_) (fun h => ?_)
  · have hlt : i < b.field.length := by omega
    have hri : i < rows.length := by omega
    have hvi : i < vals.length := by omega
    have hti : i < b.taken.length := by rw [hb.taken]; exact hlt
    have hfi : i < b.fair.length := by rw [hb.fair]; exact hlt
    have sr := hrows _ (List.getElem_mem hri)
    have st := hb.takens _ (List.getElem_mem hti)
    have sf := hb.fairs _ (List.getElem_mem hfi)
    have ss := hb.seed _ (List.getElem_mem hlt)
    have hl : (cOf eInt (vals.take i)).length = i * 1 := by rw [flat_len eInt 1 (fun _ => rfl), List.length_take]; omega
    have hset : ∀ x, keyVal b rows key i = x → cOf eInt (vals.take i) ++ [C.v (V.int IntKind.i64 x)] = cOf eInt (vals.take (i + 1)) := fun x hx => by
      rw [List.take_succ_eq_append_getElem hvi, cOf_append, cOf_one, hval i hvi, hx]; rfl
    simp only [keyVal, getD_of hri, getD_of hti, getD_of hfi, getD_of hlt] at hset
    have nxt : ∀ (B B' B'' : Blk) (e : Env), LeE (fun i => [0, 1, 5].getD i 0) 3 [(3, DC (.ptr 0 0)), (1, DV (vInt key)), (25, DC (.sl 7 1 0 b.field.length)), (8, DC (.sl 1 2 0 (i + 1))), (26, DV (vInt b.field.length)), (27, DV (vInt (i + 1 : Nat)))] e →
        nextK 0 (fun (i : Nat) => [(3, DC (.ptr 0 0)), (1, DV (vInt key)), (25, DC (.sl 7 1 0 b.field.length)), (8, DC (.sl 1 2 0 i)), (26, DV (vInt b.field.length)), (27, DV (vInt i))]) (fun (i : Nat) => [.cells ((eBook b).map .v), .cells (cOf eRow rows), .cells (cOf eInt (vals.take i))]) (fun (i : Nat) => b.field.length - i) (fun (i : Nat) => i ≤ b.field.length) i e [.cells ((eBook b).map .v), .cells (cOf eRow rows), B, B', B'', .cells (cOf eInt (vals.take (i + 1)))] :=
      fun B B' B'' e he => next_pick (i + 1) [0, 1, 5] (by omega) (by omega) (by decide) rfl (fun j b' hj => by
        match j, hj with
        | 0, hj => cases hj; exact ⟨⟨eBook b, rfl⟩, rfl⟩
        | 1, hj => cases hj; exact ⟨cOf_data _ _, rfl⟩
        | 2, hj => cases hj; exact ⟨cOf_data _ _, rfl⟩
        | j + 3, hj => simp at hj) he
    have hlt' : (i : Int) < b.field.length := by omega
    have h64 := w64s (show i < 4611686018427387904 by omega)
    have hr7 := fun (A B : Blk) => rdm_elem eRow 7 (fun _ => rfl) (m := [A, .cells (cOf eRow rows), B]) (id := 1) rfl i hri
    obtain ⟨⟨x1, x1'⟩, ⟨x2, x2'⟩, ⟨x3, x3'⟩, ⟨x4, x4'⟩, ⟨x5, x5'⟩, ⟨x6, x6'⟩, ⟨x7, x7'⟩⟩ := sr
    generalize htb : rows[i] = r at *
    have z0 : (0 : Nat) < 3 := by omega
    have z1 : (1 : Nat) < 3 := by omega
    have z2 : (2 : Nat) < 3 := by omega
    have hlen8 : (i + 1) * 8 ≤ 140737488355328 := by omega
    simp -implicitDefEqProofs only [go_sem, ↓reduceIte, Nat.reduceEqDiff, Nat.reduceAdd, Nat.reduceLeDiff, hlt', Nat.zero_add, ↓hr7, eRow]
    by_cases n1 : key = 1
    · subst n1
      simp -implicitDefEqProofs only [go_sem, ↓reduceIte, Nat.reduceEqDiff, Nat.reduceAdd, Nat.reduceLeDiff, Int.reduceEq, hlt', h64, hl, hlen8, w64 (x := r.points - b.taken[i]) (by omega) (by omega), List.getElem?_eq_getElem hti, vInts]
      rw [hset _ (by simp)]
      exact nxt _ _ _ _ ⟨⟨z0, .inr rfl⟩, ⟨trivial, .inr rfl⟩, ⟨z1, .inr rfl⟩, ⟨z2, .inr rfl⟩, ⟨trivial, .inr rfl⟩, ⟨trivial, .inr rfl⟩, trivial⟩
    by_cases n5 : key = 5
    · subst n5
      simp -implicitDefEqProofs only [go_sem, ↓reduceIte, Nat.reduceEqDiff, Nat.reduceAdd, Nat.reduceLeDiff, Int.reduceEq, hlt', h64, hl, hlen8]
      rw [hset _ (by simp)]
      exact nxt _ _ _ _ ⟨⟨z0, .inr rfl⟩, ⟨trivial, .inr rfl⟩, ⟨z1, .inr rfl⟩, ⟨z2, .inr rfl⟩, ⟨trivial, .inr rfl⟩, ⟨trivial, .inr rfl⟩, trivial⟩
    by_cases n2 : key = 2
    · subst n2
      simp -implicitDefEqProofs only [go_sem, ↓reduceIte, Nat.reduceEqDiff, Nat.reduceAdd, Nat.reduceLeDiff, Int.reduceEq, hlt']
      refine (specDifferenceOf r ⟨⟨x1, by omega⟩, ⟨x2, by omega⟩, ⟨x3, by omega⟩, ⟨x4, by omega⟩, ⟨x5, by omega⟩, ⟨x6, by omega⟩, ⟨x7, by omega⟩⟩).callp (.vs (eRow r) .nil) ?_
      simp -implicitDefEqProofs only [go_sem, ↓reduceIte, Nat.reduceEqDiff, Nat.reduceAdd, Nat.reduceLeDiff, hlt', h64, hl, hlen8]
      rw [hset _ (by simp)]
      exact nxt _ _ _ _ ⟨⟨z0, .inr rfl⟩, ⟨trivial, .inr rfl⟩, ⟨z1, .inr rfl⟩, ⟨z2, .inr rfl⟩, ⟨trivial, .inr rfl⟩, ⟨trivial, .inr rfl⟩, trivial⟩
    by_cases n6 : key = 6
    · subst n6
      simp -implicitDefEqProofs only [go_sem, ↓reduceIte, Nat.reduceEqDiff, Nat.reduceAdd, Nat.reduceLeDiff, Int.reduceEq, hlt']
      refine (specDifferenceOf r ⟨⟨x1, by omega⟩, ⟨x2, by omega⟩, ⟨x3, by omega⟩, ⟨x4, by omega⟩, ⟨x5, by omega⟩, ⟨x6, by omega⟩, ⟨x7, by omega⟩⟩).callp (.vs (eRow r) .nil) ?_
      simp -implicitDefEqProofs only [go_sem, ↓reduceIte, Nat.reduceEqDiff, Nat.reduceAdd, Nat.reduceLeDiff, hlt', h64, hl, hlen8]
      rw [hset _ (by simp)]
      exact nxt _ _ _ _ ⟨⟨z0, .inr rfl⟩, ⟨trivial, .inr rfl⟩, ⟨z1, .inr rfl⟩, ⟨z2, .inr rfl⟩, ⟨trivial, .inr rfl⟩, ⟨trivial, .inr rfl⟩, trivial⟩
    by_cases n3 : key = 3
    · subst n3
      simp -implicitDefEqProofs only [go_sem, ↓reduceIte, Nat.reduceEqDiff, Nat.reduceAdd, Nat.reduceLeDiff, Int.reduceEq, hlt', h64, hl, hlen8]
      rw [hset _ (by simp)]
      exact nxt _ _ _ _ ⟨⟨z0, .inr rfl⟩, ⟨trivial, .inr rfl⟩, ⟨z1, .inr rfl⟩, ⟨z2, .inr rfl⟩, ⟨trivial, .inr rfl⟩, ⟨trivial, .inr rfl⟩, trivial⟩
    by_cases n4 : key = 4
    · subst n4
      simp -implicitDefEqProofs only [go_sem, ↓reduceIte, Nat.reduceEqDiff, Nat.reduceAdd, Nat.reduceLeDiff, Int.reduceEq, hlt', h64, hl, hlen8]
      rw [hset _ (by simp)]
      exact nxt _ _ _ _ ⟨⟨z0, .inr rfl⟩, ⟨trivial, .inr rfl⟩, ⟨z1, .inr rfl⟩, ⟨z2, .inr rfl⟩, ⟨trivial, .inr rfl⟩, ⟨trivial, .inr rfl⟩, trivial⟩
    by_cases n7 : key = 7
    · subst n7
      simp -implicitDefEqProofs only [go_sem, ↓reduceIte, Nat.reduceEqDiff, Nat.reduceAdd, Nat.reduceLeDiff, Int.reduceEq, hlt', h64, hl, hlen8, w64 (x := 0 - b.fair[i]) (by omega) (by omega), List.getElem?_eq_getElem hfi, vInts]
      rw [hset _ (by simp)]
      exact nxt _ _ _ _ ⟨⟨z0, .inr rfl⟩, ⟨trivial, .inr rfl⟩, ⟨z1, .inr rfl⟩, ⟨z2, .inr rfl⟩, ⟨trivial, .inr rfl⟩, ⟨trivial, .inr rfl⟩, trivial⟩
    by_cases n8 : key = 8
    · subst n8
      simp -implicitDefEqProofs only [go_sem, ↓reduceIte, Nat.reduceEqDiff, Nat.reduceAdd, Nat.reduceLeDiff, Int.reduceEq, hlt', h64, hl, hlen8, w64 (x := 0 - b.field[i].seed) (by omega) (by omega), List.getElem?_eq_getElem hlt, vTeams, eTeam]
      rw [hset _ (by simp)]
      exact nxt _ _ _ _ ⟨⟨z0, .inr rfl⟩, ⟨trivial, .inr rfl⟩, ⟨z1, .inr rfl⟩, ⟨z2, .inr rfl⟩, ⟨trivial, .inr rfl⟩, ⟨trivial, .inr rfl⟩, trivial⟩
    simp -implicitDefEqProofs only [go_sem, ↓reduceIte, Nat.reduceEqDiff, Nat.reduceAdd, Nat.reduceLeDiff, n1, n2, n3, n4, n5, n6, n7, n8, h64, hl, hlen8]
    rw [hset _ (by simp [n1, n2, n3, n4, n5, n6, n7, n8])]
    exact nxt _ _ _ _ ⟨⟨z0, .inr rfl⟩, ⟨trivial, .inr rfl⟩, ⟨z1, .inr rfl⟩, ⟨z2, .inr rfl⟩, ⟨trivial, .inr rfl⟩, ⟨trivial, .inr rfl⟩, trivial⟩
  · simp -implicitDefEqProofs only [go_sem, ↓reduceIte, Nat.reduceEqDiff, Nat.reduceAdd, Nat.reduceLeDiff]
    have hin : i = b.field.length := by omega
    refine finK_fz (FzD.c (Fz.cOf eInt 1 (fun _ => rfl) (by omega) (l := vals) ?_ ?_)) ⟨rfl, rfl⟩
    · rw [hin, ← hvl, List.take_length]; rfl
    · omega

end Go.Proofs.YtneiicadhjdbiaaGreat.Ab

namespace Go.Proofs.YtneiicadhjdbiaaGreat.Ab
open Go

def grps (ids : List Nat) (gs : List (List Int)) : List C := List.zipWith (fun id g => .sl 1 id 0 g.length) ids gs

structure Nest (m : List Blk) (o : Nat) (ids : List Nat) (gs : List (List Int)) : Prop where
  outer : m[o]? = some (.cells (grps ids gs))
  len : ids.length = gs.length
  inner : ∀ (j id : Nat) (g : List Int), ids[j]? = some id → gs[j]? = some g → m[id]? = some (.cells (cOf eInt g))
  nodup : ids.Nodup
  far : o ∉ ids

theorem grps_len {ids : List Nat} {gs : List (List Int)} (h : ids.length = gs.length) : (grps ids gs).length = gs.length := by simp [grps, h]
theorem grps_get {ids : List Nat} {gs : List (List Int)} {k : Nat} (h1 : k < ids.length) (h2 : k < gs.length) : (grps ids gs)[k]? = some (.sl 1 ids[k] 0 gs[k].length) := by
  rw [grps, List.getElem?_zipWith, List.getElem?_eq_getElem h1, List.getElem?_eq_getElem h2]

theorem flat_one : ∀ (gs : List (List Int)), (gs.map fun g => [vInts g]).flatten = gs.map vInts
  | [] => rfl
  | g :: r => by rw [List.map_cons, List.flatten_cons, flat_one r]; rfl

theorem rdm_cell {m : List Blk} {id k : Nat} {cs : List C} {c : C} (hm : m[id]? = some (.cells cs)) (hc : cs[k]? = some c) : rdm m id (0 + k * 1) 1 = some [c] := by
  have hk := (List.getElem?_eq_some_iff.1 hc).1
  have hg := (List.getElem?_eq_some_iff.1 hc).2
  unfold rdm
  rw [hm]
  show (if 0 + k * 1 + 1 ≤ cs.length then some ((cs.drop (0 + k * 1)).take 1) else none) = some [c]
  rw [if_pos (by omega), Nat.zero_add, Nat.mul_one, List.drop_eq_getElem_cons hk, hg]; rfl
theorem wrm_cell {m : List Blk} {id k : Nat} {cs : List C} (hm : m[id]? = some (.cells cs)) (hk : k < cs.length) (x : C) : wrm m id (0 + k * 1) 1 [x] = some (m.set id (.cells (cs.set k x))) := by
  rw [wrm_of m id (0 + k * 1) 1 [x] cs hm rfl (by omega), Nat.zero_add, Nat.mul_one]; rfl
theorem rdm_last (m : List Blk) (x : C) : rdm (m ++ [.cells [x]]) m.length 0 (1 * 1) = some [x] := by
  unfold rdm
  rw [List.getElem?_append_right (Nat.le_refl _), Nat.sub_self]
  rfl

section
variable {m : List Blk} {o : Nat} {ids : List Nat} {gs : List (List Int)}

theorem Nest.ol (h : Nest m o ids gs) : o < m.length := (List.getElem?_eq_some_iff.1 h.outer).1
theorem Nest.kl (h : Nest m o ids gs) {k : Nat} (hk : k < gs.length) : k < ids.length := by rw [h.len]; exact hk
theorem Nest.inn (h : Nest m o ids gs) {k : Nat} (hk : k < gs.length) : m[ids[k]'(h.kl hk)]? = some (.cells (cOf eInt gs[k])) :=
  h.inner k _ _ (List.getElem?_eq_getElem (h.kl hk)) (List.getElem?_eq_getElem hk)
theorem Nest.il (h : Nest m o ids gs) {k : Nat} (hk : k < gs.length) : ids[k]'(h.kl hk) < m.length := (List.getElem?_eq_some_iff.1 (h.inn hk)).1
theorem Nest.rd (h : Nest m o ids gs) {k : Nat} (hk : k < gs.length) : rdm m o (0 + k * 1) 1 = some [.sl 1 (ids[k]'(h.kl hk)) 0 gs[k].length] := rdm_cell h.outer (grps_get (h.kl hk) hk)
theorem Nest.hd (h : Nest m o ids gs) {k : Nat} (hk : k < gs.length) (hne : gs[k] ≠ []) : rdm m (ids[k]'(h.kl hk)) (0 + 0 * 1) 1 = some [.v (.int .i64 (gs[k].headD 0))] := by
  refine rdm_cell (h.inn hk) ?_
  cases hg : gs[k] with
  | nil => exact absurd hg hne
  | cons x r => rfl
theorem Nest.lt (h : Nest m o ids gs) {id : Nat} (hid : id ∈ ids) : id < m.length := by
  obtain ⟨j, hj, rfl⟩ := List.getElem_of_mem hid
  have hj' : j < gs.length := by rw [← h.len]; exact hj
  exact h.il hj'

/-- One more number in a group: the block that held it is let go. -/
theorem Nest.app (h : Nest m o ids gs) {k : Nat} (hk : k < gs.length) (t : Int) :
    Nest ((((m ++ [Blk.cells [C.v (.int .i64 t)]]).set (ids[k]'(h.kl hk)) Blk.hole) ++ [Blk.cells (cOf eInt gs[k] ++ [C.v (.int .i64 t)])]).set o (Blk.cells ((grps ids gs).set k (.sl 1 (m.length + 1) 0 (gs[k].length + 1))))) o (ids.set k (m.length + 1)) (gs.set k (gs[k] ++ [t])) := by
  have hkl := h.kl hk
  have hol := h.ol
  have hne : ∀ j, (hj : j < ids.length) → ids[j] ≠ o := fun j hj he => h.far (he ▸ List.getElem_mem hj)
  have hlt : ∀ j, (hj : j < ids.length) → ids[j] < m.length := fun j hj => h.lt (List.getElem_mem hj)
  refine ⟨?_, by simp [h.len], fun j id g h1 h2 => ?_, ?_, ?_⟩
  · rw [List.getElem?_set_self (by simp; omega)]
    congr 2
    apply List.ext_getElem?
    intro j
    by_cases hj : k = j
    · subst hj
      rw [List.getElem?_set_self (by rw [grps_len h.len]; exact hk)]
      rw [grps_get (by simpa using hkl) (by simpa using hk)]
      simp
    · rw [List.getElem?_set_ne hj]
      simp only [grps, List.getElem?_zipWith, List.getElem?_set_ne hj]
  · by_cases hj : k = j
    · subst hj
      rw [List.getElem?_set_self hkl] at h1
      rw [List.getElem?_set_self hk] at h2
      cases h1; cases h2
      rw [List.getElem?_set_ne (by omega), List.getElem?_append_right (by simp)]
      have e : m.length + 1 - ((m ++ [Blk.cells [C.v (V.int IntKind.i64 t)]]).set ids[k] Blk.hole).length = 0 := by simp
      rw [e, cOf_append, cOf_one]; rfl
    · rw [List.getElem?_set_ne hj] at h1 h2
      have hjl := (List.getElem?_eq_some_iff.1 h1).1
      have hje := (List.getElem?_eq_some_iff.1 h1).2
      rw [← hje] at h1 ⊢
      rw [List.getElem?_set_ne (fun he => hne j hjl he.symm), List.getElem?_append_left (by simp; have := hlt j hjl; omega), List.getElem?_set_ne (fun he => hj (nodup_inj h.nodup hkl hjl he)), List.getElem?_append_left (hlt j hjl)]
      exact h.inner j _ g h1 h2
  · refine List.pairwise_iff_getElem.2 fun a b ha hb hab he => ?_
    simp only [List.length_set] at ha hb
    rw [List.getElem_set, List.getElem_set] at he
    have la := hlt a ha; have lb := hlt b hb
    split at he <;> split at he
    · omega
    · omega
    · omega
    · have := nodup_inj h.nodup ha hb he; omega
  · intro hm
    rcases List.mem_or_eq_of_mem_set hm with h1 | h1
    · exact h.far h1
    · omega

/-- A new group, put in: new outer cells under a new name. -/
theorem Nest.ins (h : Nest m o ids gs) {k : Nat} (hk : k ≤ gs.length) {m' : List Blk} {o' p : Nat} {g : List Int} (hk1 : ∀ id ∈ ids, m'[id]? = m[id]?) (hp : m'[p]? = some (.cells (cOf eInt g))) (hpn : p ∉ ids) (ho' : o' ∉ ids) (hop : o' ≠ p)
    (hout : m'[o']? = some (.cells ((grps ids gs).take k ++ .sl 1 p 0 g.length :: (grps ids gs).drop k))) : Nest m' o' (ids.take k ++ p :: ids.drop k) (gs.take k ++ g :: gs.drop k) := by
  have hkl : k ≤ ids.length := by rw [h.len]; exact hk
  have htl : (ids.take k).length = (gs.take k).length := by rw [List.length_take, List.length_take, h.len]
  refine ⟨hout.trans ?_, by simp [h.len], fun j id g' h1 h2 => ?_, ?_, ?_⟩
  · congr 2
    rw [grps, grps, List.zipWith_append htl, List.zipWith_cons_cons, List.take_zipWith, List.drop_zipWith]
  · have hl1 : (ids.take k).length = k := by rw [List.length_take]; omega
    have hl2 : (gs.take k).length = k := by rw [List.length_take]; omega
    rcases Nat.lt_trichotomy j k with hj | hj | hj
    · rw [List.getElem?_append_left (by omega), List.getElem?_take, if_pos hj] at h1 h2
      rw [hk1 id (List.mem_of_getElem? h1)]
      exact h.inner j id g' h1 h2
    · subst hj
      rw [List.getElem?_append_right (by omega), hl1, Nat.sub_self] at h1
      rw [List.getElem?_append_right (by omega), hl2, Nat.sub_self] at h2
      cases h1; cases h2; exact hp
    · rw [List.getElem?_append_right (by omega), hl1, show j - k = (j - k - 1) + 1 by omega, List.getElem?_cons_succ, List.getElem?_drop] at h1
      rw [List.getElem?_append_right (by omega), hl2, show j - k = (j - k - 1) + 1 by omega, List.getElem?_cons_succ, List.getElem?_drop] at h2
      rw [hk1 id (List.mem_of_getElem? h1)]
      exact h.inner _ id g' h1 h2
  · have := h.nodup
    rw [← List.take_append_drop k ids] at this
    rw [List.nodup_append] at this ⊢
    obtain ⟨a1, a2, a3⟩ := this
    refine ⟨a1, List.nodup_cons.2 ⟨fun hm => hpn (List.mem_of_mem_drop hm), a2⟩, fun x hx y hy => ?_⟩
    rcases List.mem_cons.1 hy with rfl | hy
    · exact fun he => hpn (he ▸ List.mem_of_mem_take hx)
    · exact a3 x hx y hy
  · intro hm
    rcases List.mem_append.1 hm with hm | hm
    · exact ho' (List.mem_of_mem_take hm)
    · rcases List.mem_cons.1 hm with hm | hm
      · exact hop hm
      · exact ho' (List.mem_of_mem_drop hm)

def vGroups (gs : List (List Int)) : V := .ro 1 (gs.map fun g => [vInts g])

/-- Given up: groups as data. -/
theorem Nest.fz (h : Nest m o ids gs) {n : Nat} (hn : n = gs.length) : Fz m (.sl 1 o 0 n) (vGroups gs) := by
  subst hn
  refine .sl 1 o 0 gs.length (grps ids gs) _ (rdm_all h.outer (by rw [grps_len h.len, Nat.mul_one])) (by simp) (fun c hc => ?_) (by omega) ?_ (fun j x y hx hy => ?_)
  · obtain ⟨g, _, rfl⟩ := List.mem_map.1 hc; rfl
  · rw [grps_len h.len]
    rw [flat_one, List.length_map]
  · have hj : j < gs.length := by rw [← grps_len h.len]; exact (List.getElem?_eq_some_iff.1 hx).1
    rw [flat_one, List.getElem?_map, List.getElem?_eq_getElem hj] at hy
    rw [grps_get (h.kl hj) hj] at hx
    cases hx; cases hy
    exact Fz.cOf eInt 1 (fun _ => rfl) (by omega) (h.inn hj) rfl

end
end Go.Proofs.YtneiicadhjdbiaaGreat.Ab

namespace Go.Proofs.YtneiicadhjdbiaaGreat.Ab
open Go Go.Shelf Go.RowKit Go.Lib

section
variable {P : Program}
structure InsT (P : Program) (tS tE : Nat) : Prop where
  tI : P.underlying 3 = some (TypeDesc.int IntKind.i64)
  tB : P.underlying 4 = some (TypeDesc.bool)
  tS : P.underlying tS = some (TypeDesc.slice tE)
  iE : (P.info? tE).map (fun i => (i.zero, i.size, i.bytes)) = some (some (Value.slice none 0 0), 1, 24)
end

theorem insT : InsT Tryz.prog 120 23 := ⟨by kernel_rfl, by kernel_rfl, by kernel_rfl, by kernel_rfl⟩

set_option maxHeartbeats 4000000 in
set_option maxRecDepth 100000 in
theorem insShift (b n c i vb vc : Nat) (cs : List Value) (x : Value) (w : World) (hi : i < n) (hn63 : n ≤ 1000000) (hroom : n + 1 ≤ c) (hvb : vb ≠ b) (hcl : cs.length = n)
    (hcs : ∀ j v, cs[j]? = some v → w.cell? ⟨b, j, none⟩ = some v) (hsp : ∀ j, j < n + 1 → (w.cell? ⟨b, j, none⟩).isSome = true) (hfz : ∀ j, w.frozen? ⟨b, j, none⟩ = false)
    (hvs : w.cell? ⟨vb, 0, none⟩ = some x) (h1c : ∀ v ∈ cs, v.oneCell' = true) (h1v : x.oneCell' = true)
    (tA tB : TypeId) (kA kB : Nat) (hsa : w.shape? vb = some (tA, kA)) (hsb : w.shape? b = some (tB, kB)) (hkB : kB ≠ 0) (hfa : ∀ j, w.frozen? ⟨vb, j, none⟩ = false) :
    Calls Tryz.prog 189 #[.slice (some ⟨b, 0, none⟩) n c, .int .i64 i, .slice (some ⟨vb, 0, none⟩) 1 vc] w fun e w' =>
      e = .returned (.slice (some ⟨b, 0, none⟩) (n + 1) c) ∧ w' = (w.drew.setCells b (i + 1) (cs.drop i)).setCells b i [x] := by
  have t3 : Tryz.prog.underlying 3 = some (TypeDesc.int IntKind.i64) := insT.tI
  have t4 : Tryz.prog.underlying 4 = some (TypeDesc.bool) := insT.tB
  have tS : Tryz.prog.underlying 120 = some (TypeDesc.slice 23) := insT.tS
  have u3 := run_underlying t3; have u4 := run_underlying t4; have uS := run_underlying tS
  have mixed : Tryz.prog.follows .mixedOrders = true := by kernel_rfl
  obtain ⟨i0, hi0, hz0, hzs, hzb⟩ := info_parts insT.iE
  have hsz : (Tryz.prog.info? 23).map (·.size) = some 1 := by rw [hi0]; simp [hzs]
  have hz1 : ¬ ((1 : Int) = 0) := by omega
  have hz2 : ¬ ((i : Int) = (n : Int)) := by omega
  have hzE : ∀ w, (Go.sizeOf 23).run Tryz.prog w = .ok 1 w := fun w => by rw [run_sizeOf w hi0]; simp [Program.cellsOf, hi0, hzs]
  have hov : ∀ lb cb, (callFunc 197 #[.slice (some ⟨vb, 0, none⟩) 1 vc, .slice (some ⟨b, i + 1, none⟩) lb cb]).run Tryz.prog w = .ok (.value (.bool false)) w := fun lb cb => by
    rw [run_callFunc_extern Tryz.func197 (by kernel_rfl) (by kernel_rfl) (by kernel_rfl) (e := Extern.SlicesOverlaps.overlaps #[120, 120] #[4]) (by kernel_rfl),
      Lib.run_overlaps_apart w 120 4 23 tS 1 hzE ⟨vb, 0, none⟩ ⟨b, i + 1, none⟩ 1 vc lb cb hvb tA tB kA kB hsa hsb hkB (hfa 0) (hfa kA)]
    rfl
  have hdl : (cs.drop i).length = n - i := by rw [List.length_drop, hcl]
  have hw1 : IntKind.i64.wrap ((i : Int) + (1 : Int)) = (i : Int) + (1 : Int) := by rw [IntKind.wrap_i64]; omega
  have hb1 : (0 : Int) ≤ (i : Int) + (1 : Int) := by omega
  have hin : i ≤ n := by omega
  have htn : ((i : Int) + (1 : Int)).toNat = i + 1 := by omega
  have hb2 : ¬ (c = i + 1) := by omega
  have hb3 : (i : Int) ≤ (n : Int) + (1 : Int) := by omega
  have hb4 : ¬ (c = i) := by omega
  have hcp1 : ∀ ty dc sc, (Builtin.copy_ #[120, 120] ty #[.slice (some ⟨b, i + 1, none⟩) (n - i) dc, .slice (some ⟨b, i, none⟩) (n + 1 - i) sc]).run Tryz.prog w.drew = .ok (goInt (cs.drop i).length) (w.drew.setCells b (i + 1) (cs.drop i)) := fun ty dc sc =>
    run_copy_cells w.drew _ _ ty 23 b (i + 1) (n - i) dc ⟨b, i, none⟩ (n + 1 - i) sc (cs.drop i) tS hsz (by rw [hdl]; simp only [Nat.min_def]; split <;> omega)
      (fun j v hj => by rw [Addr.add_lit]; exact hcs (i + j) v (by rwa [List.getElem?_drop] at hj))
      (fun j hj => hsp _ (by omega)) (fun j hj => hfz _) (fun v hv => h1c v (List.mem_of_mem_drop hv))
  obtain ⟨W1, hW1⟩ : ∃ W1, W1 = w.drew.setCells b (i + 1) (cs.drop i) := ⟨_, rfl⟩
  have hsp1 : ∀ k, k < n + 1 → (W1.cell? ⟨b, k, none⟩).isSome = true := fun k hk => by
    rw [hW1]
    exact isSome_setCells b (cs.drop i) (i + 1) w.drew (fun j hj => hsp (i + 1 + j) (by rw [hdl] at hj; omega)) k (hsp k hk)
  have hcp2 : ∀ (W : World), (∀ x, W.cell? x = W1.cell? x) → (∀ x, W.frozen? x = W1.frozen? x) → ∀ ty dc, (Builtin.copy_ #[120, 120] ty #[.slice (some ⟨b, i, none⟩) (n + 1 - i) dc, .slice (some ⟨vb, 0, none⟩) 1 vc]).run Tryz.prog W = .ok (goInt [x].length) (W.setCells b i [x]) := fun W hWc hWf ty dc =>
    run_copy_cells W _ _ ty 23 b i (n + 1 - i) dc ⟨vb, 0, none⟩ 1 vc [x] tS hsz (by simp only [List.length_cons, List.length_nil, Nat.min_def]; split <;> omega)
      (fun j v hj => by
        rw [Addr.add_lit, hWc, hW1, World.cell?_setCells_out b _ _ _ _ (fun h _ => absurd h hvb)]
        cases j with
        | zero => simp at hj; subst hj; exact hvs
        | succ j => simp at hj)
      (fun j hj => by rw [hWc]; exact hsp1 _ (by simp at hj; omega)) (fun j hj => by rw [hWf, hW1, World.frozen?_setCells]; exact hfz _) (fun v hv => by simp at hv; subst hv; exact h1v)
  rw [← hW1] at hcp1
  go_enter Tryz.func189, Tryz.ntmps189
  go_wp2_with (simp only [hov])
  go_region_law_o (refine step_copy_runI rfl _ _ 120 120 rfl _ _ (by simp [Act.eval, Act.put]) (by simp [Act.eval, Act.put]) (hcp1 _ _ _) ?_)
  go_wp2_with (at_builtin; refine wpList_copy_runI _ rfl _ _ 120 120 rfl _ _ rfl rfl (hcp2 _ (fun _ => rfl) (fun _ => rfl) _ _) ?_)
  go_ret
  first | exact ⟨rfl, rfl⟩ | exact ⟨rfl, by rw [hW1]⟩

set_option maxHeartbeats 4000000 in
set_option maxRecDepth 100000 in
theorem insGrow (b n c i vb vc : Nat) (cs : List Value) (x : Value) (w : World) (hi : i < n) (hnc : n ≤ c) (hroom : c < n + 1) (hbig : n ≤ 1000000) (hcl : cs.length = n)
    (hcs : ∀ j v, cs[j]? = some v → w.cell? ⟨b, j, none⟩ = some v) (hvs : w.cell? ⟨vb, 0, none⟩ = some x) (h1c : ∀ v ∈ cs, v.oneCell' = true) (h1v : x.oneCell' = true) :
    Calls Tryz.prog 189 #[.slice (some ⟨b, 0, none⟩) n c, .int .i64 i, .slice (some ⟨vb, 0, none⟩) 1 vc] w fun e w' =>
      e = .returned (.slice (some ⟨w.heap.size, 0, none⟩) (n + 1) (grownCap w (n + 1) c 23)) ∧
      w' = (((w.alloc (.cells ((cs.take i).toArray ++ Builtin.zeroCells (Value.slice none 0 0).cells (n + 1 - i) ++ Builtin.zeroCells (Value.slice none 0 0).cells (grownCap w (n + 1) c 23 - (n + 1))) 23)).drew.setCells w.heap.size i [x]).drew).setCells w.heap.size (i + 1) (cs.drop i) := by
  have t3 : Tryz.prog.underlying 3 = some (TypeDesc.int IntKind.i64) := insT.tI
  have t4 : Tryz.prog.underlying 4 = some (TypeDesc.bool) := insT.tB
  have tS : Tryz.prog.underlying 120 = some (TypeDesc.slice 23) := insT.tS
  have u3 := run_underlying t3; have u4 := run_underlying t4; have uS := run_underlying tS
  have mixed : Tryz.prog.follows .mixedOrders = true := by kernel_rfl
  obtain ⟨i0, hi0, hz0, hzs, hzb⟩ := info_parts insT.iE
  have hz1 : ¬ ((1 : Int) = 0) := by omega
  have hz2 : ¬ ((i : Int) = (n : Int)) := by omega
  have hz3 : (c : Int) < (n : Int) + (1 : Int) := by omega
  have hsz : (Tryz.prog.info? 23).map (·.size) = some 1 := by rw [hi0]; simp [hzs]
  have hbw : b < w.heap.size := block_lt_of_cell (hcs 0 _ (List.getElem?_eq_getElem (by omega)))
  have hvw : vb < w.heap.size := block_lt_of_cell hvs
  have hkk : (n : Int) + (1 : Int) - (i : Int) = ((n + 1 - i : Nat) : Int) := by omega
  have hik : i + (n + 1 - i) = n + 1 := by omega
  have hold : (Builtin.firstCells i0.size i (.slice (some ⟨b, 0, none⟩) i c)).run Tryz.prog w.drew = .ok (cs.take i).toArray w.drew := by
    rw [hzs]
    exact run_firstCells_some w.drew 1 i ⟨b, 0, none⟩ i c (cs.take i) (by rw [List.length_take]; omega) (fun j v hj => by
      rw [Addr.add_lit, Nat.zero_add]
      rw [List.getElem?_take] at hj
      split at hj
      · exact hcs j v hj
      · cases hj)
  have hrz : ∀ ty, (Builtin.append_ #[120, 3] ty #[.slice (some ⟨b, 0, none⟩) i c, .int .i64 ((n : Int) + (1 : Int) - (i : Int))]).run Tryz.prog w =
      .ok (.slice (some ⟨w.heap.size, 0, none⟩) (n + 1) (grownCap w (n + 1) c 23)) (w.drew.alloc (.cells ((cs.take i).toArray ++ Builtin.zeroCells (Value.slice none 0 0).cells (n + 1 - i) ++ Builtin.zeroCells (Value.slice none 0 0).cells (grownCap w (n + 1) c 23 - (n + 1))) 23)) := fun ty => by
    have h := Lib.run_append_grow_zeros w 120 3 ty 23 i0 _ .i64 .i64 tS t3 hi0 hz0 (some ⟨b, 0, none⟩) i c (cs.take i) hold (n + 1 - i) (by omega) (by omega) (by omega) (by omega) (by rw [hzb]; omega) (by rw [hzb, hik]; exact growslice_fits hroom (by omega))
    rw [hik] at h
    rw [hkk]
    exact h
  obtain ⟨G, hG⟩ : ∃ G, G = grownCap w (n + 1) c 23 := ⟨_, rfl⟩
  obtain ⟨ROW, hROW⟩ : ∃ ROW : Array Value, ROW = (cs.take i).toArray ++ Builtin.zeroCells (Value.slice none 0 0).cells (n + 1 - i) ++ Builtin.zeroCells (Value.slice none 0 0).cells (G - (n + 1)) := ⟨_, rfl⟩
  rw [← hG] at hrz ⊢
  rw [← hROW] at hrz ⊢
  have hRl : n + 1 ≤ ROW.size := by
    rw [hROW]
    simp [Builtin.zeroCells, Value.cells]
    omega
  obtain ⟨W1, hW1⟩ : ∃ W1, W1 = w.drew.alloc (.cells ROW 23) := ⟨_, rfl⟩
  rw [← hW1] at hrz
  have hN : ∀ j, j < n + 1 → (W1.cell? ⟨w.heap.size, j, none⟩).isSome = true := fun j hj => by
    rw [hW1, World.cell?_alloc_at (w := w.drew) ROW _ w.heap.size j rfl, Array.getElem?_eq_getElem (by omega)]; rfl
  have hNf : ∀ j, W1.frozen? ⟨w.heap.size, j, none⟩ = false := fun j => by rw [hW1]; exact World.frozen?_alloc_at (w := w.drew) ROW _ w.heap.size j rfl
  have hOb : ∀ j v, w.cell? ⟨b, j, none⟩ = some v → W1.cell? ⟨b, j, none⟩ = some v := fun j v h => by rw [hW1, World.cell?_alloc_past (w := w.drew) _ b j hbw]; exact h
  have hOv : ∀ j v, w.cell? ⟨vb, j, none⟩ = some v → W1.cell? ⟨vb, j, none⟩ = some v := fun j v h => by rw [hW1, World.cell?_alloc_past (w := w.drew) _ vb j hvw]; exact h
  have hcpA : ∀ (W : World), (∀ x, W.cell? x = W1.cell? x) → (∀ x, W.frozen? x = W1.frozen? x) → ∀ ty dc, (Builtin.copy_ #[120, 120] ty #[.slice (some ⟨w.heap.size, i, none⟩) (n + 1 - i) dc, .slice (some ⟨vb, 0, none⟩) 1 vc]).run Tryz.prog W = .ok (goInt [x].length) (W.setCells w.heap.size i [x]) := fun W hWc hWf ty dc =>
    run_copy_cells W _ _ ty 23 w.heap.size i (n + 1 - i) dc ⟨vb, 0, none⟩ 1 vc [x] tS hsz (by simp only [List.length_cons, List.length_nil, Nat.min_def]; split <;> omega)
      (fun j v hj => by
        rw [Addr.add_lit, hWc]
        cases j with
        | zero => simp at hj; subst hj; exact hOv _ _ hvs
        | succ j => simp at hj)
      (fun j hj => by rw [hWc]; exact hN _ (by simp at hj; omega)) (fun j hj => by rw [hWf]; exact hNf _) (fun v hv => by simp at hv; subst hv; exact h1v)
  have hGn : n + 1 ≤ G := by rw [hG]; exact grownCap_ge w _ _ _
  have hG63 : G ≤ 9223372036854775807 := by
    have := grownCap_le_maxLen w (n + 1) c 23 (by unfold maxLen; omega)
    rw [← hG] at this
    unfold maxLen at this
    omega
  have hGi : ¬ (G = i) := by omega
  have hGim : ¬ (G = i + 1) := by omega
  have hci : ¬ (c = i) := by omega
  have hbN : b ≠ w.heap.size := by omega
  have hdl : (cs.drop i).length = n - i := by rw [List.length_drop, hcl]
  have hcpB : ∀ (W : World), (∀ y, W.cell? y = (W1.setCells w.heap.size i [x]).cell? y) → (∀ y, W.frozen? y = (W1.setCells w.heap.size i [x]).frozen? y) → ∀ ty dc sc, (Builtin.copy_ #[120, 120] ty #[.slice (some ⟨w.heap.size, i + 1, none⟩) (n - i) dc, .slice (some ⟨b, i, none⟩) (n - i) sc]).run Tryz.prog W = .ok (goInt (cs.drop i).length) (W.setCells w.heap.size (i + 1) (cs.drop i)) := fun W hWc hWf ty dc sc =>
    run_copy_cells W _ _ ty 23 w.heap.size (i + 1) (n - i) dc ⟨b, i, none⟩ (n - i) sc (cs.drop i) tS hsz (by rw [hdl]; simp only [Nat.min_def]; split <;> omega)
      (fun j v hj => by
        rw [Addr.add_lit, hWc, World.cell?_setCells_out _ _ _ _ _ (fun h _ => absurd h hbN)]
        exact hOb _ v (hcs (i + j) v (by rwa [List.getElem?_drop] at hj)))
      (fun j hj => by rw [hWc]; exact isSome_setCells _ _ _ _ (fun t ht => hN _ (by simp at ht; omega)) _ (hN _ (by rw [hdl] at hj; omega)))
      (fun j hj => by rw [hWf, World.frozen?_setCells]; exact hNf _) (fun v hv => h1c v (List.mem_of_mem_drop hv))
  subst hW1
  have hE1 : ∀ y, ((w.alloc (.cells ROW 23)).drew).cell? y = (w.drew.alloc (.cells ROW 23)).cell? y := fun y => rfl
  have hE2 : ∀ y, ((w.alloc (.cells ROW 23)).drew).frozen? y = (w.drew.alloc (.cells ROW 23)).frozen? y := fun y => rfl
  have hF1 : ∀ y, (((w.alloc (.cells ROW 23)).drew.setCells w.heap.size i [x]).drew).cell? y = ((w.drew.alloc (.cells ROW 23)).setCells w.heap.size i [x]).cell? y := fun y => rfl
  have hF2 : ∀ y, (((w.alloc (.cells ROW 23)).drew.setCells w.heap.size i [x]).drew).frozen? y = ((w.drew.alloc (.cells ROW 23)).setCells w.heap.size i [x]).frozen? y := fun y => rfl
  have hw1 : IntKind.i64.wrap ((i : Int) + (1 : Int)) = (i : Int) + (1 : Int) := by rw [IntKind.wrap_i64]; omega
  have hb1 : (0 : Int) ≤ (i : Int) + (1 : Int) := by omega
  have hin : i ≤ n := by omega
  have htn : ((i : Int) + (1 : Int)).toNat = i + 1 := by omega
  have hb3 : (i : Int) ≤ (n : Int) := by omega
  clear hkk hik hold hROW hG hRl
  go_enter Tryz.func189, Tryz.ntmps189
  go_wp2_with (first
    | (at_builtin; refine Lib.wpList_append_run _ rfl _ _ _ _ rfl _ _ rfl rfl _ _ (hrz _) ?_)
    | (at_builtin; refine wpList_copy_runI _ rfl _ _ 120 120 rfl _ _ rfl rfl (hcpA _ hE1 hE2 _ _) ?_)
    | (at_builtin; refine wpList_copy_runI _ rfl _ _ 120 120 rfl _ _ rfl rfl (hcpB _ (fun _ => rfl) (fun _ => rfl) _ _ _) ?_))
  go_region_law_o (refine step_copy_runI rfl _ _ 120 120 rfl (.slice (some ⟨w.heap.size, i + 1, none⟩) (n - i) (G - (i + 1))) (.slice (some ⟨b, i, none⟩) (n - i) (c - i)) (by simp [Act.eval, Act.put]) (by simp [Act.eval, Act.put]) (hcpB _ hF1 hF2 3 (G - (i + 1)) (c - i)) ?_)
  go_wp2
  go_ret
  exact ⟨rfl, rfl⟩

/-! ### cells set one by one -/
def putA : Array Value → Nat → List Value → Array Value
  | c, _, [] => c
  | c, o, v :: r => putA (c.setIfInBounds o v) (o + 1) r

theorem putA_size : ∀ (vs : List Value) (c : Array Value) (o : Nat), (putA c o vs).size = c.size
  | [], _, _ => rfl
  | v :: r, c, o => by rw [putA, putA_size r]; simp

theorem putA_get : ∀ (vs : List Value) (c : Array Value) (o j : Nat), o + vs.length ≤ c.size → (putA c o vs)[j]? = if o ≤ j ∧ j < o + vs.length then vs[j - o]? else c[j]?
  | [], c, o, j, _ => by rw [putA, if_neg (by simp only [List.length_nil]; omega)]
  | v :: r, c, o, j, h => by
    simp only [List.length_cons] at h ⊢
    rw [putA, putA_get r _ (o + 1) j (by simp; omega)]
    by_cases h1 : o + 1 ≤ j ∧ j < o + 1 + r.length
    · rw [if_pos h1, if_pos (by omega), show j - o = (j - (o + 1)) + 1 by omega, List.getElem?_cons_succ]
    · rw [if_neg h1]
      by_cases h2 : j = o
      · subst h2
        rw [if_pos (by omega), Nat.sub_self, List.getElem?_cons_zero, Array.getElem?_setIfInBounds_self, if_pos (by omega)]
      · rw [if_neg (by omega), Array.getElem?_setIfInBounds_ne (Ne.symm h2)]

theorem setRow_setRow (w : World) (b : Nat) (c c' : Array Value) : (w.setRow b c).setRow b c' = w.setRow b c' := by
  simp only [World.setRow, World.mk.injEq, and_self, and_true]
  apply Array.ext_getElem?
  intro i
  simp only [Array.getElem?_modify]
  split
  · simp only [Option.map_map]
    congr 1
    funext o
    cases o <;> rfl
  · rfl

theorem setCell_row {w : World} {b o : Nat} {v : Value} {c : Array Value} {e : TypeId} {fr : Nat × Nat} (hg : w.heap[b]? = some (.cells c e fr)) : w.setCell ⟨b, o, none⟩ v = w.setRow b (c.setIfInBounds o v) := by
  simp only [World.setCell, World.setRow, World.mk.injEq, and_self, and_true]
  apply Array.ext_getElem?
  intro i
  simp only [Array.getElem?_modify]
  by_cases h : b = i
  · subst h
    rw [if_pos rfl, if_pos rfl, hg]; rfl
  · rw [if_neg h, if_neg h]

theorem setCells_row : ∀ (vs : List Value) {w : World} {b o : Nat} {c : Array Value} {e : TypeId} {fr : Nat × Nat}, w.heap[b]? = some (.cells c e fr) → w.setCells b o vs = w.setRow b (putA c o vs)
  | [], w, b, o, c, e, fr, hg => by rw [World.setCells, putA, setRow_self w b c e fr hg]
  | v :: r, w, b, o, c, e, fr, hg => by
    rw [World.setCells, setCell_row hg, setCells_row r (setRow_heap w b c _ e fr hg), setRow_setRow, putA]

/-- What the elements are once one more stands among them. -/
theorem ins_get {α : Type} {l : List α} {x : α} {k n : Nat} (hl : l.length = n) (hk : k ≤ n) (j : Nat) : (l.take k ++ x :: l.drop k)[j]? = if j < k then l[j]? else if j = k then some x else l[j - 1]? := by
  have h1 : (l.take k).length = k := by rw [List.length_take]; omega
  rw [List.getElem?_append, h1]
  by_cases hj : j < k
  · rw [if_pos hj, if_pos hj, List.getElem?_take, if_pos hj]
  · rw [if_neg hj, if_neg hj]
    by_cases he : j = k
    · subst he; rw [if_pos rfl, Nat.sub_self, List.getElem?_cons_zero]
    · rw [if_neg he, show j - k = (j - k - 1) + 1 by omega, List.getElem?_cons_succ, List.getElem?_drop]; congr 1; omega


end Go.Proofs.YtneiicadhjdbiaaGreat.Ab

namespace Go.Proofs.YtneiicadhjdbiaaGreat.Ab
open Go Go.Shelf Go.RowKit Go.Lib

theorem insertIn {K : D → List Blk → Prop} {m : List Blk} {o q n k : Nat} {cs : List C} {x : C} (ho : m[o]? = some (.cells cs)) (hcs : cs.length = n) (hq : m[q]? = some (.cells [x])) (hoq : o ≠ q) (hk : k < n) (hn : n ≤ 1000)
    (hK : K (DC (.sl 1 m.length 0 (n + 1))) (m.set o .hole ++ [.cells (cs.take k ++ x :: cs.drop k)])) : AFunG Tryz.prog false 189 [DC (.sl 1 o 0 n), DV (vInt k), DC (.sl 1 q 0 1)] m K := by
  intro X σ w vs hm hr
  obtain ⟨hr1, hr2⟩ := hr
  obtain ⟨v0, e0, r0⟩ := hr2 0 _ rfl
  obtain ⟨v1, e1, r1⟩ := hr2 1 _ rfl
  obtain ⟨v2, e2, r2⟩ := hr2 2 _ rfl
  have hvs : vs = [v0, v1, v2] := by
    match vs, hr1, e0, e1, e2 with
    | [a, b, c], _, e0, e1, e2 => simp at e0 e1 e2; rw [e0, e1, e2]
  subst hvs
  cases r1
  rcases r0 with ⟨_, h, _⟩ | ⟨b, N, cap, s0, rfl, hcap, hN⟩
  · omega
  rcases r2 with ⟨_, h, _⟩ | ⟨vb, Nv, vc, sq, rfl, hvc, hNv⟩
  · omega
  rcases hm.blk o cs ho with ⟨k1, _⟩ | ⟨b', N', k1, c, e, g2, g3, g4, g5⟩
  · rw [s0] at k1; cases k1
  rw [s0] at k1; cases k1
  rcases hm.blk q [x] hq with ⟨k1, _⟩ | ⟨b', N', k1, cq, eq, q2, q3, q4, q5⟩
  · rw [sq] at k1; cases k1
  rw [sq] at k1; cases k1
  have hvb : vb ≠ b := fun h => hoq (hm.inj o q b N Nv cs [x] ho hq s0 (h ▸ sq))
  obtain ⟨xv, x1, x2⟩ := q5 0 x rfl
  obtain ⟨csV, hcsV⟩ : ∃ l, l = c.toList.take n := ⟨_, rfl⟩
  have hcl : csV.length = n := by rw [hcsV, List.length_take]; simp; omega
  have hget : ∀ j, j < n → csV[j]? = c[j]? := fun j hj => by rw [hcsV, List.getElem?_take, if_pos hj]; simp
  have hrep : ∀ j y, cs[j]? = some y → ∃ v, csV[j]? = some v ∧ RepC σ (Lv X σ m) w v y := fun j y hj => by
    obtain ⟨v, a1, a2⟩ := g5 j y hj
    exact ⟨v, by rw [hget j (by have := (List.getElem?_eq_some_iff.1 hj).1; omega)]; exact a1, a2⟩
  have h1c : ∀ v ∈ csV, v.oneCell' = true := repC_one_list ⟨by rw [hcl, hcs], hrep⟩
  have h1v : xv.oneCell' = true := x2.one
  have hcell : ∀ j v, csV[j]? = some v → w.cell? ⟨b, j, none⟩ = some v := fun j v hj => by
    have hjn : j < n := by have := (List.getElem?_eq_some_iff.1 hj).1; omega
    simp only [World.cell?, g2]
    rw [hget j hjn] at hj
    simpa using hj
  have hvcell : w.cell? ⟨vb, 0, none⟩ = some xv := by simp only [World.cell?, q2]; simpa using x1
  by_cases hroom : n + 1 ≤ cap
  · refine (insShift b n cap k vb vc csV xv w hk (by omega) hroom hvb hcl hcell (fun j hj => ?_) (fun j => ?_) hvcell h1c h1v eq e cq.size c.size (by simp [World.shape?, q2]) (by simp [World.shape?, g2]) (by omega) (fun j => ?_)).mono ?_
    · simp only [World.cell?, g2]
      rw [Array.getElem?_eq_getElem (by omega)]; rfl
    · simp [World.frozen?, g2]
    · simp [World.frozen?, q2]
    rintro en w' ⟨rfl, rfl⟩
    have hg' : (w.drew.setRow b (putA c (k + 1) (csV.drop k))).heap[b]? = some (.cells (putA c (k + 1) (csV.drop k)) e (0, 0)) := setRow_heap _ _ _ _ _ _ g2
    rw [setCells_row _ (w := w.drew) g2, setCells_row _ hg', setRow_setRow]
    have hd : (csV.drop k).length = n - k := by rw [List.length_drop, hcl]
    have sm : Same w w.drew := ⟨rfl, rfl, rfl, rfl⟩
    obtain ⟨p1, p2⟩ := mem_grow (sm.mem hm) (c' := putA (putA c (k + 1) (csV.drop k)) k [xv]) (cs' := cs.take k ++ x :: cs.drop k) ho s0 g2 (by rw [putA_size, putA_size, g3]) (by rw [putA_size, putA_size]; simp; omega) (fun j y hj => by
      have gc := (sm.tr (n := m.length) (σ := σ) (m := m)).chg hm
      rw [ins_get hcs (by omega)] at hj
      rw [putA_get _ _ _ _ (by rw [putA_size]; simp; omega), putA_get _ _ _ _ (by rw [hd]; omega), hd]
      simp only [List.length_cons, List.length_nil]
      split at hj
      · rename_i h1
        obtain ⟨v, a1, a2⟩ := g5 j y hj
        exact ⟨v, by rw [if_neg (by omega), if_neg (by omega)]; exact a1, a2.mono gc⟩
      · split at hj
        · rename_i h1 h2
          cases hj
          exact ⟨xv, by rw [if_pos (by omega), h2, Nat.sub_self]; rfl, x2.mono gc⟩
        · rename_i h1 h2
          obtain ⟨v, a1, a2⟩ := hrep _ y hj
          have := (List.getElem?_eq_some_iff.1 hj).1
          exact ⟨v, by rw [if_neg (by omega), if_pos (by omega), List.getElem?_drop, ← a1]; congr 1; omega, a2.mono gc⟩)
    refine ⟨⟨_, _, _, _, rfl, hK, .inr ⟨b, N, cap, up_same _ _ _, rfl, hroom, hN⟩, p1, (sm.tr (n := m.length)).trans p2 (Nat.le_refl _), by simp⟩, fun h => by cases h⟩
  · refine (insGrow b n cap k vb vc csV xv w hk hcap (by omega) (by omega) hcl hcell hvcell h1c h1v).mono ?_
    rintro en w' ⟨rfl, rfl⟩
    have hd : (csV.drop k).length = n - k := by rw [List.length_drop, hcl]
    obtain ⟨G, hG⟩ : ∃ G, G = grownCap w (n + 1) cap 23 := ⟨_, rfl⟩
    rw [← hG]
    obtain ⟨ROW, hROW⟩ : ∃ ROW : Array Value, ROW = (csV.take k).toArray ++ Builtin.zeroCells (Value.slice none 0 0).cells (n + 1 - k) ++ Builtin.zeroCells (Value.slice none 0 0).cells (G - (n + 1)) := ⟨_, rfl⟩
    have hGn : n + 1 ≤ G := by rw [hG]; exact grownCap_ge w _ _ _
    have hRs : ROW.size = G := by
      rw [hROW]
      simp [zeroCells_size, Value.cells]
      omega
    have hRk : ∀ j, j < k → ROW[j]? = csV[j]? := fun j hj => by
      rw [hROW, Array.append_assoc, Array.getElem?_append_left (by simp; omega)]
      simp [List.getElem?_take, hj]
    rw [← hROW]
    have h1 : ((w.alloc (.cells ROW 23)).drew).heap[w.heap.size]? = some (.cells ROW 23 (0, 0)) := by
      show (w.heap.push _)[w.heap.size]? = _
      simp
    rw [setCells_row _ h1]
    have h2 : (((w.alloc (.cells ROW 23)).drew.setRow w.heap.size (putA ROW k [xv])).drew).heap[w.heap.size]? = some (.cells (putA ROW k [xv]) 23 (0, 0)) := setRow_heap _ _ _ _ _ _ h1
    rw [setCells_row _ h2]
    obtain ⟨C', hC'⟩ : ∃ C', C' = putA (putA ROW k [xv]) (k + 1) (csV.drop k) := ⟨_, rfl⟩
    rw [← hC']
    have hCs : C'.size = G := by rw [hC', putA_size, putA_size, hRs]
    have sm : Same (w.alloc (.cells C' 23)) ((((w.alloc (.cells ROW 23)).drew.setRow w.heap.size (putA ROW k [xv])).drew).setRow w.heap.size C') := by
      refine ⟨?_, rfl, rfl, rfl⟩
      apply Array.ext_getElem?
      intro i
      by_cases hi : i = w.heap.size
      · subst hi
        rw [setRow_heap _ _ _ _ _ _ h2]
        show _ = (w.heap.push _)[w.heap.size]?
        simp
      · rw [setRow_other _ _ _ hi]
        show ((w.alloc (.cells ROW 23)).drew.setRow w.heap.size (putA ROW k [xv])).heap[i]? = _
        rw [setRow_other _ _ _ hi]
        show (w.heap.push _)[i]? = (w.heap.push _)[i]?
        rw [Array.getElem?_push, Array.getElem?_push, if_neg hi, if_neg hi]
    obtain ⟨a1, a2⟩ := mem_hole hm o
    have gc := a2.chg hm
    obtain ⟨p1, p2⟩ := mem_new a1 (c := C') (cs := cs.take k ++ x :: cs.drop k) 23 (by rw [hCs]; simp; omega) (fun j y hj => by
      rw [ins_get hcs (by omega)] at hj
      rw [hC', putA_get _ _ _ _ (by rw [putA_size, hRs, hd]; omega), putA_get _ _ _ _ (by rw [hRs]; simp; omega), hd]
      simp only [List.length_cons, List.length_nil]
      split at hj
      · rename_i h1
        obtain ⟨v, b1, b2⟩ := hrep j y hj
        exact ⟨v, by rw [if_neg (by omega), if_neg (by omega), hRk j h1]; exact b1, b2.mono gc⟩
      · split at hj
        · rename_i h1 h2
          cases hj
          exact ⟨xv, by rw [if_neg (by omega), if_pos (by omega), h2, Nat.sub_self]; rfl, x2.mono gc⟩
        · rename_i h1 h2
          obtain ⟨v, b1, b2⟩ := hrep _ y hj
          have := (List.getElem?_eq_some_iff.1 hj).1
          exact ⟨v, by rw [if_pos (by omega), List.getElem?_drop, ← b1]; congr 1; omega, b2.mono gc⟩)
    rw [List.length_set] at p1 p2
    refine ⟨⟨_, _, _, _, rfl, hK, .inr ⟨w.heap.size, C'.size, G, up_same _ _ _, rfl, by omega, by omega⟩, sm.mem p1, (a2.trans p2 (Nat.le_refl _)).trans sm.tr (Nat.le_refl _), by simp⟩, fun h => by cases h⟩


end Go.Proofs.YtneiicadhjdbiaaGreat.Ab

namespace Go.Proofs.YtneiicadhjdbiaaGreat.Ab
open Go Go.Shelf Go.RowKit Go.Lib

/-- At the end: an append. -/
theorem insertEnd {K : D → List Blk → Prop} {m : List Blk} {o q n : Nat} {cs : List C} {x : C} (ho : m[o]? = some (.cells cs)) (hcs : cs.length = n) (hq : m[q]? = some (.cells [x])) (hn : n ≤ 1000)
    (hK : K (DC (.sl 1 m.length 0 (n + 1))) (m.set o .hole ++ [.cells (cs ++ [x])])) : AFunG Tryz.prog false F.slices_Insert_int [DC (.sl 1 o 0 n), DV (vInt n), DC (.sl 1 q 0 1)] m K := by
  have hq1 : rdm m q 0 (1 * 1) = some [x] := rdm_all hq rfl
  have hpop : popm m o (n * 1) = some (cs, m.set o .hole) := popm_of _ _ _ _ ho (by omega)
  refine (AFunG.of (Q := fun d m' => d = DC (.sl 1 m.length 0 (n + 1)) ∧ m' = m.set o .hole ++ [.cells (cs ++ [x])]) ?_).mono fun d m' ⟨h1, h2⟩ => by subst h1; subst h2; exact hK
  refine AFun.intro k_slices_Insert_int (by simp) ?_
  unfold c_slices_Insert_int
  simp only [argE, Nat.reduceAdd]
  simp -implicitDefEqProofs only [go_sem, ↓reduceIte, Nat.reduceEqDiff, Nat.reduceAdd, Nat.reduceLeDiff]
  refine slsA_sl 1 o 0 n _ _ _ n n rfl rfl (by omega) (Int.le_refl _) (Int.le_refl _) ?_
  simp -implicitDefEqProofs only [go_sem, ↓reduceIte, Nat.reduceEqDiff, Nat.reduceAdd, Nat.reduceLeDiff, vInt, (show ((1 : Nat) : Int) = 1 from rfl), Int.reduceEq, ↓hq1, ↓hpop, List.length_set]
  refine ⟨by omega, ?_⟩
  exact finK_refl (by simp) ⟨rfl, rfl⟩

theorem insertGroups {K : D → List Blk → Prop} {m : List Blk} {o q n k : Nat} {cs : List C} {x : C} (ho : m[o]? = some (.cells cs)) (hcs : cs.length = n) (hq : m[q]? = some (.cells [x])) (hoq : o ≠ q) (hk : k ≤ n) (hn : n ≤ 1000)
    (hK : K (DC (.sl 1 m.length 0 (n + 1))) (m.set o .hole ++ [.cells (cs.take k ++ x :: cs.drop k)])) : AFunG Tryz.prog false F.slices_Insert_int [DC (.sl 1 o 0 n), DV (vInt k), DC (.sl 1 q 0 1)] m K := by
  rcases Nat.lt_or_eq_of_le hk with h | rfl
  · exact insertIn ho hcs hq hoq h hn hK
  · refine insertEnd ho hcs hq hn ?_
    rw [← hcs, List.take_length, List.drop_length] at hK
    rw [← hcs]; exact hK

end Go.Proofs.YtneiicadhjdbiaaGreat.Ab

namespace Go.Proofs.YtneiicadhjdbiaaGreat.Ab
open Go

theorem Nest.app_pop {m : List Blk} {o : Nat} {ids : List Nat} {gs : List (List Int)} (h : Nest m o ids gs) {k : Nat} (hk : k < gs.length) (b : Blk) : popm (m ++ [b]) (ids[k]'(h.kl hk)) (gs[k].length * 1) = some (cOf eInt gs[k], (m ++ [b]).set (ids[k]'(h.kl hk)) .hole) :=
  popm_of _ _ _ _ ((List.getElem?_append_left (h.il hk)).trans (h.inn hk)) (flat_len eInt 1 (fun _ => rfl) _)
theorem Nest.app_wr {m : List Blk} {o : Nat} {ids : List Nat} {gs : List (List Int)} (h : Nest m o ids gs) {k : Nat} (hk : k < gs.length) (b b' : Blk) (x : C) : wrm ((m ++ [b]).set (ids[k]'(h.kl hk)) .hole ++ [b']) o (0 + k * 1) 1 [x] = some (((m ++ [b]).set (ids[k]'(h.kl hk)) .hole ++ [b']).set o (.cells ((grps ids gs).set k x))) := by
  have hol := h.ol
  refine wrm_cell ?_ (by rw [grps_len h.len]; exact hk) x
  rw [List.getElem?_append_left (by simp; omega), List.getElem?_set_ne (fun he => h.far (by rw [← he]; exact List.getElem_mem _)), List.getElem?_append_left hol]
  exact h.outer
theorem insG_at {val : Int → Int} {t : Int} {gs : List (List Int)} {k : Nat} (hs : spot val t gs = k) (hk : k < gs.length) (he : val (gs[k].headD 0) = val t) : insG val gs t = gs.set k (gs[k] ++ [t]) := by
  unfold insG; rw [hs, List.getElem?_eq_getElem hk]; exact if_pos he
theorem insG_new {val : Int → Int} {t : Int} {gs : List (List Int)} {k : Nat} (hs : spot val t gs = k) (hk : k ≤ gs.length) (he : ∀ h : k < gs.length, val (gs[k].headD 0) ≠ val t) : insG val gs t = gs.take k ++ [t] :: gs.drop k := by
  unfold insG; rw [hs]
  rcases Nat.lt_or_ge k gs.length with h | h
  · rw [List.getElem?_eq_getElem h]; exact if_neg (he h)
  · have : k = gs.length := by omega
    subst this
    rw [List.getElem?_eq_none (Nat.le_refl _), List.take_length, List.drop_length]

/-- A team's value. -/
def valAt (vals : List Int) (t : Int) : Int := vals.getD t.toNat 0

structure Sp where
  i : Nat
  m : List Blk
  o : Nat
  ids : List Nat
  gs : List (List Int)

theorem splitBy_take (val : Int → Int) (l : List Int) (i : Nat) (hi : i < l.length) : splitBy val (l.take (i + 1)) = insG val (splitBy val (l.take i)) l[i] := by
  rw [splitBy, List.take_succ_eq_append_getElem hi, List.foldl_append]; rfl

theorem splitBy_count (val : Int → Int) (l : List Int) : (splitBy val l).length ≤ l.length := by
  have h1 := splitBy_ne val l
  have h2 := (splitBy_perm val l).length_eq
  rw [List.length_flatten] at h2
  rw [← h2]
  generalize splitBy val l = gs at h1
  clear h2
  induction gs with
  | nil => simp
  | cons g r ih =>
    have := ih fun x hx => h1 x (List.mem_cons_of_mem _ hx)
    have := List.length_pos_iff.2 (h1 g (List.mem_cons_self ..))
    simp only [List.map_cons, List.sum_cons, List.length_cons]; omega

theorem valAt_get {vals : List Int} {t : Int} {n : Nat} (hn : vals.length = n) (h0 : 0 ≤ t) (h1 : t < n) : ∃ h : t.toNat < vals.length, vals[t.toNat] = valAt vals t := by
  have h : t.toNat < vals.length := by omega
  exact ⟨h, by simp [valAt, h]⟩

theorem implSplit (b : Book) (hb : Good b) (key : Int) (group : List Int) (hgr : group.length ≤ 1000) (hin : ∀ t ∈ group, 0 ≤ t ∧ t < b.field.length) :
    AFunD Tryz.prog F.impl_ranker_split [dRanker b, DV (vInt key), DV (vInts group)] (DV (vGroups (splitBy (valAt (valuesOf b key group)) group))) := by
  have hvl := valuesOf_len b key group
  have hvals := implValues b hb key group (by omega)
  refine AFunD.intro k_impl_ranker_split (by simp) ?pure ?_
  case pure => first | exact D.pure_v _ | exact D.pure_vs _
  unfold c_impl_ranker_split
  simp only [argE, Nat.reduceAdd]
  simp only [dRanker, eBook_eq]
  simp -implicitDefEqProofs only [go_sem, ↓reduceIte, Nat.reduceEqDiff, Nat.reduceAdd, Nat.reduceLeDiff]
  refine hvals.callp (.vs (eBook b ++ [vRows (allRows b)]) (.v _ (.v _ .nil))) ?_
  generalize valuesOf b key group = vals at *
  simp -implicitDefEqProofs only [go_sem, ↓reduceIte, Nat.reduceEqDiff, Nat.reduceAdd, Nat.reduceLeDiff, vInts]
  refine loop_st (S := Sp) (fun s => [(7, DV (vInts vals)), (8, DC (.sl 1 s.o 0 s.gs.length)), (17, DV (vInts group)), (18, DV (vInt group.length)), (19, DV (vInt s.i))]) (fun s => s.m) (fun s => group.length - s.i) (fun s => s.i ≤ group.length ∧ Nest s.m s.o s.ids s.gs ∧ s.gs = splitBy (valAt vals) (group.take s.i))
    ⟨0, _, 1, [], []⟩ (Nat.zero_le _) ⟨rfl, rfl, rfl, rfl, rfl, trivial⟩ rfl ⟨Nat.zero_le _, ⟨rfl, rfl, fun j id g h => by simp at h, by simp, by simp⟩, rfl⟩ ?_
  rintro ⟨i, m, o, ids, gs⟩ ⟨hi, hN, hgs⟩
  simp only at hi hN hgs ⊢
  have hgl : gs.length ≤ i := by rw [hgs]; exact Nat.le_trans (splitBy_count _ _) (by rw [List.length_take]; omega)
  have hne := splitBy_ne (valAt vals) (group.take i)
  rw [← hgs] at hne
  have hmem : ∀ k (hk : k < gs.length), 0 ≤ gs[k].headD 0 ∧ gs[k].headD 0 < b.field.length := fun k hk => by
    have h1 : gs[k] ≠ [] := hne _ (List.getElem_mem hk)
    have h2 : ∀ t ∈ gs[k], t ∈ group := fun t ht => List.mem_of_mem_take (splitBy_mem (valAt vals) (group.take i) gs[k] (by rw [← hgs]; exact List.getElem_mem hk) t ht)
    cases hg : gs[k] with
    | nil => exact absurd hg h1
    | cons x r => exact hin x (h2 x (by rw [hg]; exact List.mem_cons_self ..))
  simp -implicitDefEqProofs only [go_sem, ↓reduceIte, Nat.reduceEqDiff, Nat.reduceAdd, Nat.reduceLeDiff, vInts, vInt]
  refine condA_dec (fun h => ?_) (fun h => ?_)
  · have hlt : i < group.length := by omega
    have htk := splitBy_take (valAt vals) group i hlt
    rw [← hgs] at htk
    obtain ⟨t0, t1⟩ := hin _ (List.getElem_mem hlt)
    generalize hte : group[i] = t at *
    obtain ⟨htl, htv⟩ := valAt_get hvl t0 t1
    simp -implicitDefEqProofs only [go_sem, ↓reduceIte, Nat.reduceEqDiff, Nat.reduceAdd, Nat.reduceLeDiff, List.getElem?_eq_getElem hlt, hte]
    refine loop_st (S := Nat) (fun k => [(7, DV (vInts vals)), (8, DC (.sl 1 o 0 gs.length)), (17, DV (vInts group)), (18, DV (vInt group.length)), (19, DV (vInt i)), (10, DV (vInt t)), (11, DV (vInt k))]) (fun _ => m) (fun k => gs.length - k) (fun k => k ≤ gs.length ∧ ∀ j (h : j < gs.length), j < k → valAt vals t < valAt vals (gs[j].headD 0)) 0 (Nat.zero_le _)
      ⟨rfl, rfl, rfl, rfl, rfl, rfl, rfl, trivial⟩ rfl ⟨Nat.zero_le _, fun j _ h => absurd h (Nat.not_lt_zero _)⟩ ?_
    rintro k ⟨hk, hup⟩
    have facts : ∀ hkl : k < gs.length, (k : Int) < gs.length ∧ rdm m o (0 + k * 1) 1 = some [.sl 1 (ids[k]'(hN.kl hkl)) 0 gs[k].length] ∧ rdm m (ids[k]'(hN.kl hkl)) (0 + Int.toNat 0 * 1) 1 = some [.v (.int .i64 (gs[k].headD 0))] ∧ 0 ≤ gs[k].headD 0 ∧ (0 : Int) < gs[k].length ∧
        ∃ hsl : (gs[k].headD 0).toNat < vals.length, vals[(gs[k].headD 0).toNat] = valAt vals (gs[k].headD 0) := fun hkl => by
      obtain ⟨s0, s1⟩ := hmem k hkl
      have := List.length_pos_iff.2 (hne _ (List.getElem_mem hkl))
      exact ⟨by omega, hN.rd hkl, hN.hd hkl (hne _ (List.getElem_mem hkl)), s0, by omega, valAt_get hvl s0 s1⟩
    have hol := hN.ol
    have hgn := grps_len hN.len
    have inst : ∀ k, k ≤ gs.length → Nest ((m ++ [Blk.cells [C.v (V.int IntKind.i64 t)]] ++ [Blk.cells [C.sl 1 m.length 0 1]]).set o Blk.hole ++ [Blk.cells ((grps ids gs).take k ++ C.sl 1 m.length 0 1 :: (grps ids gs).drop k)]) (m.length + 1 + 1) (ids.take k ++ m.length :: ids.drop k) (gs.take k ++ [t] :: gs.drop k) := fun k hk => by
      refine hN.ins hk (fun id hid => ?_) ?_ (fun h => absurd (hN.lt h) (by omega)) (fun h => absurd (hN.lt h) (by omega)) (by omega) ?_
      · have h1 := hN.lt hid
        rw [List.getElem?_append_left (by simp; omega), List.getElem?_set_ne (fun he => hN.far (by rw [he]; exact hid)), List.append_assoc, List.getElem?_append_left h1]
      · rw [List.getElem?_append_left (by simp), List.getElem?_set_ne (by omega), List.append_assoc, List.getElem?_append_right (Nat.le_refl _), Nat.sub_self]; rfl
      · rw [List.getElem?_append_right (by simp)]; simp
    by_cases hkl : k < gs.length
    · obtain ⟨hkl', hrd, hhd, s0, hpos, hsl, hsv⟩ := facts hkl
      simp -implicitDefEqProofs only [go_sem, ↓reduceIte, Nat.reduceEqDiff, Nat.reduceAdd, Nat.reduceLeDiff, vInts, vInt, hkl', ↓hrd, ↓hhd, s0, t0, hpos, Int.le_refl, List.getElem?_eq_getElem hsl, List.getElem?_eq_getElem htl, hsv, htv]
      by_cases hv : valAt vals t < valAt vals (gs[k].headD 0)
      · simp -implicitDefEqProofs only [go_sem, ↓reduceIte, Nat.reduceEqDiff, Nat.reduceAdd, Nat.reduceLeDiff, hv, w64s (show k < 4611686018427387904 by omega)]
        exact next_of (k + 1) (by omega) ⟨by omega, fun j hj hjk => by
          rcases Nat.lt_or_eq_of_le (Nat.le_of_lt_succ hjk) with h1 | rfl
          · exact hup j hj h1
          · exact hv⟩ (Nat.zero_le _) ⟨rfl, rfl, rfl, rfl, rfl, rfl, rfl, trivial⟩ rfl
      have hsp : spot (valAt vals) t gs = k := spot_of hk hup fun _ => hv
      simp -implicitDefEqProofs only [go_sem, ↓reduceIte, Nat.reduceEqDiff, Nat.reduceAdd, Nat.reduceLeDiff, hv, hkl', ↓hrd, ↓hhd, s0, t0, hpos, Int.le_refl, List.getElem?_eq_getElem hsl, List.getElem?_eq_getElem htl, hsv, htv]
      by_cases he : valAt vals (gs[k].headD 0) = valAt vals t
      · have hpop := fun b => hN.app_pop hkl b
        have hwr := fun b b' x => hN.app_wr hkl b b' x
        have hlg : gs[k].length ≤ group.length := by
          have := splitBy_len (valAt vals) (group.take i) gs[k] (by rw [← hgs]; exact List.getElem_mem hkl)
          rw [List.length_take] at this; omega
        simp -implicitDefEqProofs only [go_sem, ↓reduceIte, Nat.reduceEqDiff, Nat.reduceAdd, Nat.reduceLeDiff, he, hkl', ↓hrd, ↓rdm_last, ↓hpop, List.length_set, List.length_append, ↓hwr]
        refine ⟨by omega, ?_⟩
        simp -implicitDefEqProofs only [go_sem, ↓reduceIte, Nat.reduceEqDiff, Nat.reduceAdd, Nat.reduceLeDiff, w64s (show i < 4611686018427387904 by omega)]
        refine next_of (s := (⟨i, m, o, ids, gs⟩ : Sp)) ⟨i + 1, _, o, ids.set k (m.length + 1), gs.set k (gs[k] ++ [t])⟩ (by show group.length - (i + 1) < group.length - i; omega) ⟨by show i + 1 ≤ group.length; omega, hN.app hkl t, by rw [htk, insG_at hsp hkl he]⟩ (Nat.zero_le _) ⟨rfl, ?_, rfl, rfl, rfl, trivial⟩ rfl
        simp [get]
      · simp -implicitDefEqProofs only [go_sem, ↓reduceIte, Nat.reduceEqDiff, Nat.reduceAdd, Nat.reduceLeDiff, he]
        refine insertGroups (o := o) (q := (m ++ [Blk.cells [C.v (V.int IntKind.i64 t)]]).length) (k := k) (cs := grps ids gs) (x := .sl 1 m.length 0 1) (by rw [List.append_assoc, List.getElem?_append_left hol]; exact hN.outer) (grps_len hN.len) (by rw [List.getElem?_append_right (Nat.le_refl _), Nat.sub_self]; rfl) (by simp; omega) hk (by omega) ?_
        simp -implicitDefEqProofs only [go_sem, ↓reduceIte, Nat.reduceEqDiff, Nat.reduceAdd, Nat.reduceLeDiff, List.length_append, w64s (show i < 4611686018427387904 by omega)]
        refine next_of (s := (⟨i, m, o, ids, gs⟩ : Sp)) ⟨i + 1, _, m.length + 1 + 1, ids.take k ++ m.length :: ids.drop k, gs.take k ++ [t] :: gs.drop k⟩ (by show group.length - (i + 1) < group.length - i; omega) ⟨by show i + 1 ≤ group.length; omega, inst k hk, by rw [htk, insG_new hsp hk (fun _ => he)]⟩ (Nat.zero_le _) ⟨rfl, ?_, rfl, rfl, rfl, trivial⟩ rfl
        simp [get]; omega
    · have hk' : k = gs.length := by omega
      have hkn : ¬ (k : Int) < gs.length := by omega
      have hsp : spot (valAt vals) t gs = k := spot_of hk hup fun h => absurd h hkl
      simp -implicitDefEqProofs only [go_sem, ↓reduceIte, Nat.reduceEqDiff, Nat.reduceAdd, Nat.reduceLeDiff, hkn]
      refine insertGroups (o := o) (q := (m ++ [Blk.cells [C.v (V.int IntKind.i64 t)]]).length) (k := k) (cs := grps ids gs) (x := .sl 1 m.length 0 1) (by rw [List.append_assoc, List.getElem?_append_left hol]; exact hN.outer) (grps_len hN.len) (by rw [List.getElem?_append_right (Nat.le_refl _), Nat.sub_self]; rfl) (by simp; omega) hk (by omega) ?_
      simp -implicitDefEqProofs only [go_sem, ↓reduceIte, Nat.reduceEqDiff, Nat.reduceAdd, Nat.reduceLeDiff, List.length_append, w64s (show i < 4611686018427387904 by omega)]
      refine next_of (s := (⟨i, m, o, ids, gs⟩ : Sp)) ⟨i + 1, _, m.length + 1 + 1, ids.take k ++ m.length :: ids.drop k, gs.take k ++ [t] :: gs.drop k⟩ (by show group.length - (i + 1) < group.length - i; omega) ⟨by show i + 1 ≤ group.length; omega, inst k hk, by rw [htk, insG_new hsp hk (fun h => absurd h hkl)]⟩ (Nat.zero_le _) ⟨rfl, ?_, rfl, rfl, rfl, trivial⟩ rfl
      simp [get]; omega
  · simp -implicitDefEqProofs only [go_sem, ↓reduceIte, Nat.reduceEqDiff, Nat.reduceAdd, Nat.reduceLeDiff]
    have : i = group.length := by omega
    subst this
    rw [List.take_length] at hgs
    exact finK_fz (FzD.c (hgs ▸ hN.fz rfl)) ⟨rfl, rfl⟩

end Go.Proofs.YtneiicadhjdbiaaGreat.Ab
