/- A law's arguments as data, and what its contract gives. Endings as data; the ranks in them. Who must finish where, in how many ways, and whether it is decided, on both sides: walked. The laws of who must finish where: walked. In how many ways a team has a rank, and whether its place is decided, on both sides: walked. The laws of the ways to a rank, and of what is decided: walked. -/
import Derived.Test.YtmfmiobehjgeiaaGreatAbP5
set_option linter.unusedVariables false
set_option linter.unusedSimpArgs false

namespace Go.Proofs.YtmfmiobehjgeiaaGreat.Ab
open Go

theorem decode_list {α : Type} {ts : List Ty} {f : α → List V} {p : α → Prop} (hd : ∀ c, fitVs ts c → ∃ x : α, c = f x ∧ p x) : ∀ {es : List (List V)}, fitEs ts es → ∃ l : List α, es = l.map f ∧ l.length = es.length ∧ ∀ x ∈ l, p x
  | [], _ => ⟨[], rfl, rfl, fun x h => by simp at h⟩
  | c :: r, h => by
    simp only [fitEs] at h
    obtain ⟨x, rfl, hx⟩ := hd c h.1
    obtain ⟨l, rfl, h2, h3⟩ := decode_list hd h.2
    exact ⟨x :: l, rfl, by simp, fun y hy => by
      rcases List.mem_cons.1 hy with rfl | hy
      · exact hx
      · exact h3 y hy⟩

theorem fitV_int {v : V} (h : fitV .int v) : ∃ n, v = .int .i64 n ∧ -9223372036854775808 ≤ n ∧ n ≤ 9223372036854775807 := by
  cases v with
  | int k n => cases k <;> simp only [fitV] at h; exact ⟨n, rfl, h⟩
  | _ => simp only [fitV] at h
theorem fitV_bool {v : V} (h : fitV .bool v) : ∃ b, v = .bool b := by
  cases v with
  | bool b => exact ⟨b, rfl⟩
  | _ => simp only [fitV] at h
theorem fitV_str {v : V} (h : fitV .str v) : ∃ s, v = .str s ∧ s.length ≤ 140737488355328 := by
  cases v with
  | str s => simp only [fitV] at h; exact ⟨s, rfl, h⟩
  | _ => simp only [fitV] at h
theorem fitV_sl {α : Type} {ts : List Ty} {v : V} {f : α → List V} {p : α → Prop} (hd : ∀ c, fitVs ts c → ∃ x : α, c = f x ∧ p x) (h : fitV (.sl ts) v) : ∃ l : List α, v = .ro ts.length (l.map f) ∧ l.length ≤ 140737488355328 ∧ ∀ x ∈ l, p x := by
  cases v with
  | ro sz es =>
    simp only [fitV] at h
    obtain ⟨rfl, h2, h3⟩ := h
    obtain ⟨l, rfl, h4, h5⟩ := decode_list hd h3
    exact ⟨l, rfl, by omega, h5⟩
  | _ => simp only [fitV] at h

theorem fitVs_cons {t : Ty} {r : List Ty} {ys : List V} (h : fitVs (t :: r) ys) : ∃ v s, ys = v :: s ∧ fitV t v ∧ fitVs r s := by
  cases ys with
  | nil => simp [fitVs] at h
  | cons v s => simp only [fitVs] at h; exact ⟨v, s, rfl, h.1, h.2⟩
theorem fitVs_nil {ys : List V} (h : fitVs [] ys) : ys = [] := by
  cases ys with
  | nil => rfl
  | cons v s => simp [fitVs] at h

theorem dec_int (c : List V) (h : fitVs [.int] c) : ∃ x : Int, c = [.int .i64 x] ∧ True := by
  obtain ⟨v, s, rfl, h1, h2⟩ := fitVs_cons h
  obtain rfl := fitVs_nil h2
  obtain ⟨n, rfl, _⟩ := fitV_int h1
  exact ⟨n, rfl, trivial⟩
theorem dec_team (c : List V) (h : fitVs [.str, .int, .int] c) : ∃ x : Team, c = eTeam x ∧ x.name.length ≤ 140737488355328 := by
  obtain ⟨_, _, rfl, h1, h⟩ := fitVs_cons h
  obtain ⟨_, _, rfl, h2, h⟩ := fitVs_cons h
  obtain ⟨_, _, rfl, h3, h⟩ := fitVs_cons h
  obtain rfl := fitVs_nil h
  obtain ⟨s, rfl, hs⟩ := fitV_str h1
  obtain ⟨a, rfl, _⟩ := fitV_int h2
  obtain ⟨b, rfl, _⟩ := fitV_int h3
  exact ⟨⟨s, a, b⟩, rfl, hs⟩
theorem dec_game (c : List V) (h : fitVs [.int, .int, .int, .int, .int] c) : ∃ x : Game, c = eGame x ∧ True := by
  obtain ⟨_, _, rfl, h1, h⟩ := fitVs_cons h
  obtain ⟨_, _, rfl, h2, h⟩ := fitVs_cons h
  obtain ⟨_, _, rfl, h3, h⟩ := fitVs_cons h
  obtain ⟨_, _, rfl, h4, h⟩ := fitVs_cons h
  obtain ⟨_, _, rfl, h5, h⟩ := fitVs_cons h
  obtain rfl := fitVs_nil h
  obtain ⟨a, rfl, _⟩ := fitV_int h1
  obtain ⟨b, rfl, _⟩ := fitV_int h2
  obtain ⟨c, rfl, _⟩ := fitV_int h3
  obtain ⟨d, rfl, _⟩ := fitV_int h4
  obtain ⟨e, rfl, _⟩ := fitV_int h5
  exact ⟨⟨a, b, c, d, e⟩, rfl, trivial⟩

def tyBook : List Ty := [.sl [.str, .int, .int], .int, .int, .int, .sl [.int], .bool, .sl [.int, .int, .int, .int, .int], .sl [.int], .sl [.int]]
theorem dec_book (c : List V) (h : fitVs tyBook c) : ∃ b : Book, c = eBook b ∧ Fits b := by
  obtain ⟨_, _, rfl, h1, h⟩ := fitVs_cons h
  obtain ⟨_, _, rfl, h2, h⟩ := fitVs_cons h
  obtain ⟨_, _, rfl, h3, h⟩ := fitVs_cons h
  obtain ⟨_, _, rfl, h4, h⟩ := fitVs_cons h
  obtain ⟨_, _, rfl, h5, h⟩ := fitVs_cons h
  obtain ⟨_, _, rfl, h6, h⟩ := fitVs_cons h
  obtain ⟨_, _, rfl, h7, h⟩ := fitVs_cons h
  obtain ⟨_, _, rfl, h8, h⟩ := fitVs_cons h
  obtain ⟨_, _, rfl, h9, h⟩ := fitVs_cons h
  obtain rfl := fitVs_nil h
  obtain ⟨field, rfl, f1, f2⟩ := fitV_sl dec_team h1
  obtain ⟨a, rfl, _⟩ := fitV_int h2
  obtain ⟨b, rfl, _⟩ := fitV_int h3
  obtain ⟨c, rfl, _⟩ := fitV_int h4
  obtain ⟨ladder, rfl, l1, _⟩ := fitV_sl dec_int h5
  obtain ⟨again, rfl⟩ := fitV_bool h6
  obtain ⟨games, rfl, g1, _⟩ := fitV_sl dec_game h7
  obtain ⟨fair, rfl, r1, _⟩ := fitV_sl dec_int h8
  obtain ⟨taken, rfl, t1, _⟩ := fitV_sl dec_int h9
  exact ⟨⟨field, ⟨a, b, c, ladder, again⟩, games, fair, taken⟩, rfl, ⟨by show field.length < _; omega, fun t ht => by have := f2 t ht; omega, by show ladder.length < _; omega, by show games.length < _; omega, by show fair.length < _; omega, by show taken.length < _; omega⟩⟩

section
variable {H : Type} {enc : TypeId × Value → H} {P : Program} {W : World} {sp : Nat → Bool} {held : Bool}

theorem arg_struct {n : Nat} {t : TypeId} {ts : List Ty} {fs : Array Field} {v : Value} {d : DataW H} {ps : List MemPlace} (hu : P.underlying t = some (.struct fs)) (ht : tyCells P n t = some ts) {base : Nat} (hval : Value.okWide P W .any base t v) (h : DataW.Trod enc P W 0 sp held t v d ps)
    (hw : Small64 (d.weights P t)) : ∃ ys, fitVs ts ys ∧ ∀ σ, RepD σ (fun _ => False) W v (DA (ys.map .v)) := by
  obtain ⟨cs, rfl, _⟩ := Go.WideShapes.okWide_struct hu hval
  obtain ⟨fuel, hf⟩ := h
  obtain ⟨ys, h1, h2⟩ := tyCells_reads n t ts ht fuel _ _ hf hw
  refine ⟨ys, h2, fun σ => ⟨cs.toList, by simp, by simpa [Value.cells] using h1.1, fun j x hx => ?_⟩⟩
  rw [List.getElem?_map, Option.map_eq_some_iff] at hx
  obtain ⟨y, hy, rfl⟩ := hx
  obtain ⟨u, k1, k2⟩ := h1.2 j y hy
  exact ⟨u, by simpa [Value.cells] using k1, k2⟩

theorem arg_book {n : Nat} {t : TypeId} {fs : Array Field} {v : Value} {d : DataW H} {ps : List MemPlace} (hu : P.underlying t = some (.struct fs)) (ht : tyCells P n t = some tyBook) {base : Nat} (hval : Value.okWide P W .any base t v) (h : DataW.Trod enc P W 0 sp held t v d ps)
    (hw : Small64 (d.weights P t)) : ∃ b, Fits b ∧ ∀ σ, RepD σ (fun _ => False) W v (dBook b) := by
  obtain ⟨ys, h1, h2⟩ := arg_struct hu ht hval h hw
  obtain ⟨b, rfl, h3⟩ := dec_book ys h1
  exact ⟨b, h3, h2⟩

theorem weights_at {ts : List TypeId} {ds : List (DataW H)} (h : (DataW.weightsEach P ts ds).all (· ≤ reachBytes) = true) {j : Nat} {t : TypeId} {d : DataW H} (ht : ts[j]? = some t) (hd : ds[j]? = some d) : Small64 (d.weights P t) :=
  List.all_eq_true.2 fun n hn => List.all_eq_true.1 h n (DataW.weights_mem_each ht hd n hn)

theorem RepDs.nil : RepDs (fun _ => none) (fun _ => False) W [] [] := ⟨rfl, fun i d h => by simp at h⟩
theorem RepDs.cons {v : Value} {vs : List Value} {d : D} {ds : List D} (h : RepD (fun _ => none) (fun _ => False) W v d) (k : RepDs (fun _ => none) (fun _ => False) W vs ds) : RepDs (fun _ => none) (fun _ => False) W (v :: vs) (d :: ds) :=
  ⟨by simp [k.1], fun i x hx => by
    cases i with
    | zero => simp at hx; subst hx; exact ⟨v, rfl, h⟩
    | succ i => simpa using k.2 i x (by simpa using hx)⟩
theorem rep_int (n : Int) : RepD (fun _ => none) (fun _ => False) W (.int .i64 n) (DV (vInt n)) := .int _ _

/-- A law's contract, at the model. -/
theorem law_calls {f : Nat} {ds : List D} (h : AFun P f ds [] fun d _ => d = DV (.bool true)) {args : Array Value} (hr : RepDs (fun _ => none) (fun _ => False) W args.toList ds) :
    Calls P f args W fun e w' => e = .returned (.bool true) ∧ Go.RowKit.Below W.heap.size W w' := by
  have no0 : ∀ b, ¬ Own (fun _ => none) [] b := fun b ⟨id, cs, N, h1, _⟩ => by simp at h1
  have hm : MemOk (fun _ => False) (fun _ => none) [] W := ⟨fun id cs hid => by simp at hid, fun id id' b N N' cs cs' h1 => by simp at h1, fun b hb => hb.elim, fun _ _ => rfl⟩
  have g : Chg (fun _ => none) (fun _ => False) W (fun _ => none) (Lv (fun _ => False) (fun _ => none) []) W := ⟨fun id p hp => (by cases hp), Nat.le_refl _, fun b _ _ => ⟨fun hL => hL.elim (fun h => h) (no0 b), rfl⟩⟩
  have hr' : RepDs (fun _ => none) (Lv (fun _ => False) (fun _ => none) []) W args.toList ds := ⟨hr.1, fun i d hd => let ⟨u, h1, h2⟩ := hr.2 i d hd; ⟨u, h1, h2.mono g⟩⟩
  have := h (fun _ => False) (fun _ => none) W args.toList hm hr'
  refine Calls.mono (by simpa using this) ?_
  rintro e w' ⟨v, d, m', σ', rfl, rfl, hrep, _, tr, _⟩
  have hv : v = .bool true := repD_bool hrep
  subst hv
  exact ⟨rfl, tr.os, tr.tape, tr.output, tr.size, fun k hk => tr.keep k hk (no0 k)⟩

end
end Go.Proofs.YtmfmiobehjgeiaaGreat.Ab

namespace Go.Proofs.YtmfmiobehjgeiaaGreat.Ab
open Go

theorem fzCs_at {m : List Blk} : ∀ {cs : List C} {ys : List V}, FzCs m cs ys → ∀ (j : Nat) (x : C) (y : V), cs[j]? = some x → ys[j]? = some y → Fz m x y
  | [], [], _, j, x, y, hx, _ => by simp at hx
  | a :: r, b :: s, h, 0, x, y, hx, hy => by simp at hx hy; subst hx; subst hy; exact h.1
  | a :: r, b :: s, h, j + 1, x, y, hx, hy => fzCs_at h.2 j x y (by simpa using hx) (by simpa using hy)
  | [], _ :: _, h, _, _, _, _, _ => h.elim
  | _ :: _, [], h, _, _, _, _, _ => h.elim
theorem FzCs.append {m : List Blk} : ∀ {a : List C} {b : List V} {c : List C} {d : List V}, FzCs m a b → FzCs m c d → FzCs m (a ++ c) (b ++ d)
  | [], [], _, _, _, k => k
  | _ :: _, _ :: _, _, _, h, k => ⟨h.1, FzCs.append h.2 k⟩
  | [], _ :: _, _, _, h, _ => h.elim
  | _ :: _, [], _, _, h, _ => h.elim

theorem Fz.of_cs {m : List Blk} {sz id n : Nat} {cs : List C} {es : List (List V)} (hm : m[id]? = some (.cells cs)) (hn : es.length = n) (hsz : ∀ c ∈ es, c.length = sz) (hpos : 0 < sz) (h : FzCs m cs es.flatten) : Fz m (.sl sz id 0 n) (.ro sz es) := by
  have hl := (fzCs_get h).1
  have hfl : es.flatten.length = n * sz := by
    subst hn
    rw [flatten_length es fun i c hi => hsz c (List.mem_of_getElem? hi)]
  exact .sl sz id 0 n cs es (rdm_all hm (by rw [hl, hfl])) hn hsz hpos hl (fzCs_at h)

def eEnd (e : List Int × List Int) : List V := [vInts e.1, vInts e.2]
def vEnds (L : List (List Int × List Int)) : V := .ro 2 (L.map eEnd)

theorem Endm.fz {m : List Blk} {o : Nat} {es : List En} (h : Endm m o es) : Fz m (.sl 2 o 0 es.length) (vEnds (es.map fun e => (e.list, e.ranks))) := by
  refine Fz.of_cs h.outer (by simp) (fun c hc => ?_) (by omega) ?_
  · obtain ⟨e, _, rfl⟩ := List.mem_map.1 hc; rfl
  · have h1 := h.list
    have h2 := h.ranks
    clear h
    induction es with
    | nil => exact trivial
    | cons e r ih =>
      have := ih (fun x hx => h1 x (List.mem_cons_of_mem _ hx)) (fun x hx => h2 x (List.mem_cons_of_mem _ hx))
      rw [cEns, List.flatMap_cons, List.map_cons, List.map_cons, List.flatten_cons]
      refine FzCs.append ⟨Fz.cOf eInt 1 (fun _ => rfl) (by omega) (h1 e (List.mem_cons_self ..)) rfl, Fz.cOf eInt 1 (fun _ => rfl) (by omega) (h2 e (List.mem_cons_self ..)) rfl, trivial⟩ this

theorem implEndingsD (b : Book) (hf : Fits b) (hs : Small b) (team : Int) : AFunD Tryz.prog F.impl_endings [dBook b, DV (vInt team)] (DV (vEnds (endsM b team))) :=
  (implEndings b hf hs team).toD (D.pure_v _) fun d m ⟨o, es, h1, h2, h3, _⟩ => by
    subst h1
    rw [← h3]
    exact FzD.c h2.fz

theorem endsM_len (b : Book) (team : Int) : (endsM b team).length = (ranksAt b team).length := by
  unfold endsM ranksAt; split <;> simp

theorem endsM_rank (b : Book) (team : Int) (i : Nat) (hi : i < (endsM b team).length) (hi' : i < (ranksAt b team).length) :
    ∃ h : team.toNat < (endsM b team)[i].2.length, 0 ≤ team ∧ (endsM b team)[i].2[team.toNat] = (ranksAt b team)[i] ∧ (endsM b team)[i].2.length = b.field.length := by
  by_cases h : short b = true ∧ inB team 0 (b.field.length - 1) = true
  · have e1 : endsM b team = (List.range (countM b)).map fun i => (outAt (openG b.games).length i, ranksM (playedM b (outAt (openG b.games).length i))) := if_pos h
    have e2 : ranksAt b team = (List.range (countM b)).map fun i => rankOfM (playedM b (outAt (openG b.games).length i)) team := if_pos h
    have ht := inB_iff.1 h.2
    have g1 : (endsM b team)[i].2 = ranksM (playedM b (outAt (openG b.games).length i)) := by simp [e1]
    have g2 : (ranksAt b team)[i] = rankOfM (playedM b (outAt (openG b.games).length i)) team := by simp [e2]
    have hl : (ranksM (playedM b (outAt (openG b.games).length i))).length = b.field.length := ranksM_len _
    refine ⟨by rw [g1, hl]; omega, ht.1, ?_, by rw [g1, hl]⟩
    rw [g2, rankOfM, if_pos (playedM_ok (short_ok h.1).1)]
    simp only [g1, ranksM, List.getElem_map, upTo_get]
    congr 1; omega
  · have e1 : endsM b team = [] := if_neg h
    rw [e1] at hi; simp at hi

theorem ranksAt_len (b : Book) (team : Int) : (ranksAt b team).length ≤ 243 := by
  unfold ranksAt; split
  · have := countM_le b; simpa using this
  · simp

end Go.Proofs.YtmfmiobehjgeiaaGreat.Ab

namespace Go.Proofs.YtmfmiobehjgeiaaGreat.Ab
open Go

def dEnd (e : List Int × List Int) : D := DA ((eEnd e).map .v)
theorem eEnd_len (e : List Int × List Int) : (eEnd e).length = 2 := rfl
theorem eEnd_take (e : List Int × List Int) : (eEnd e).take 2 = eEnd e := rfl
attribute [go_sem] eEnd_len eEnd_take

theorem indexFuncEnd {mem : List Blk} {g : Nat} {caps : List (Nat × Nat)} {p : List Int × List Int → Bool} {l : List (List Int × List Int)} (hl : l.length < 4611686018427387904) (hf : isFn Tryz.prog g = true)
    (hc : ∀ x ∈ l, AFun Tryz.prog g (dEnd x :: caps.map fun p => DC (.ptr p.1 p.2)) mem fun d m => d = DV (.bool (p x)) ∧ m = mem) :
    AFun Tryz.prog F.slices_IndexFunc_ending [DV (vEnds l), DC (.fn g caps)] mem fun d m => d = DV (vInt (firstI (fun i => (l[i]?).any p) l.length)) ∧ m = mem := by
  refine AFun.intro k_slices_IndexFunc_ending (by simp) ?_
  unfold c_slices_IndexFunc_ending
  simp only [argE, Nat.reduceAdd]
  simp only [vEnds]
  simp -implicitDefEqProofs only [go_sem, ↓reduceIte, Nat.reduceEqDiff, Nat.reduceAdd, Nat.reduceLeDiff]
  refine loop_st (S := Nat) (fun i => [(0, DV (vEnds l)), (1, DC (.fn g caps)), (7, DV (vInt l.length)), (8, DV (vInt i))]) (fun _ => mem) (fun i => l.length - i) (fun i => i ≤ l.length ∧ ((List.range i).any fun i => (l[i]?).any p) = false) 0 (Nat.le_refl _)
    ⟨rfl, rfl, rfl, rfl, trivial⟩ rfl ⟨Nat.zero_le _, rfl⟩ ?_
  rintro i ⟨hi, hp⟩
  simp -implicitDefEqProofs only [go_sem, ↓reduceIte, Nat.reduceEqDiff, Nat.reduceAdd, Nat.reduceLeDiff, vEnds, vInt]
  refine condA_dec (fun h => ?_) (fun h => ?_)
  · have hlt : i < l.length := by omega
    simp -implicitDefEqProofs only [go_sem, ↓reduceIte, Nat.reduceEqDiff, Nat.reduceAdd, Nat.reduceLeDiff, List.getElem?_eq_getElem hlt]
    refine ⟨hf, (AFunG.of (hc l[i] (List.getElem_mem hlt))).mono ?_⟩
    rintro _ _ ⟨rfl, rfl⟩
    cases h1 : p l[i]
    · simp -implicitDefEqProofs only [go_sem, ↓reduceIte, Nat.reduceEqDiff, Nat.reduceAdd, Nat.reduceLeDiff, w64s (show i < 4611686018427387904 by omega)]
      exact next_of (i + 1) (by omega) ⟨by omega, by rw [any_range_succ, hp, List.getElem?_eq_getElem hlt, Option.any_some, h1]; rfl⟩ (Nat.le_refl _) ⟨rfl, rfl, rfl, rfl, trivial⟩ rfl
    · simp -implicitDefEqProofs only [go_sem, ↓reduceIte, Nat.reduceEqDiff, Nat.reduceAdd, Nat.reduceLeDiff]
      exact finK_refl (Nat.le_refl _) ⟨by rw [firstI_some hlt (by rw [List.getElem?_eq_getElem hlt, Option.any_some, h1]) hp], rfl⟩
  · simp -implicitDefEqProofs only [go_sem, ↓reduceIte, Nat.reduceEqDiff, Nat.reduceAdd, Nat.reduceLeDiff]
    have : i = l.length := by omega
    subst this
    exact finK_refl (Nat.le_refl _) ⟨by rw [firstI_none hp], rfl⟩

theorem containsFuncEnd {mem : List Blk} {g : Nat} {caps : List (Nat × Nat)} {p : List Int × List Int → Bool} {l : List (List Int × List Int)} (hl : l.length < 4611686018427387904) (hf : isFn Tryz.prog g = true)
    (hc : ∀ x ∈ l, AFun Tryz.prog g (dEnd x :: caps.map fun p => DC (.ptr p.1 p.2)) mem fun d m => d = DV (.bool (p x)) ∧ m = mem) :
    AFun Tryz.prog F.slices_ContainsFunc_ending [DV (vEnds l), DC (.fn g caps)] mem fun d m => d = DV (.bool ((List.range l.length).any fun i => (l[i]?).any p)) ∧ m = mem := by
  refine AFun.intro k_slices_ContainsFunc_ending (by simp) ?_
  unfold c_slices_ContainsFunc_ending
  simp only [argE, Nat.reduceAdd]
  simp -implicitDefEqProofs only [go_sem, ↓reduceIte, Nat.reduceEqDiff, Nat.reduceAdd, Nat.reduceLeDiff]
  refine (AFunG.of (indexFuncEnd hl hf hc)).mono ?_
  rintro _ _ ⟨rfl, rfl⟩
  simp -implicitDefEqProofs only [go_sem, ↓reduceIte, Nat.reduceEqDiff, Nat.reduceAdd, Nat.reduceLeDiff]
  exact finK_refl (Nat.le_refl _) ⟨by rw [firstI_ge], rfl⟩


def mustM (b : Book) (team place : Int) : Bool := decide (0 < (ranksAt b team).length) && !((List.range (ranksAt b team).length).any fun i => ((ranksAt b team)[i]?).any fun r => decide (place < r))

theorem specMustFinish (b : Book) (hf : Fits b) (hs : Small b) (team place : Int) : AFunD Tryz.prog F.spec_MustFinish [dBook b, DV (vInt team), DV (vInt place)] (DV (.bool (mustM b team place))) := by
  have hrl := ranksAt_len b team
  refine AFunD.intro k_spec_MustFinish (by simp) ?pure ?_
  case pure => first | exact D.pure_v _ | exact D.pure_vs _
  unfold c_spec_MustFinish
  simp only [argE, Nat.reduceAdd]
  simp only [dBook, eBook_eq]
  simp -implicitDefEqProofs only [go_sem, ↓reduceIte, Nat.reduceEqDiff, Nat.reduceAdd, Nat.reduceLeDiff]
  refine (specL16Ranks b hf hs team).callp (.vs (eBook b) (.v _ .nil)) ?_
  rw [mustM]
  generalize ranksAt b team = l at *
  simp -implicitDefEqProofs only [go_sem, ↓reduceIte, Nat.reduceEqDiff, Nat.reduceAdd, Nat.reduceLeDiff, vInts]
  refine loop_st (S := Nat) (fun i => [(2, DV (vInt place)), (7, DV (vInts l)), (13, DV (vInts l)), (14, DV (vInt l.length)), (15, DV (vInt i))]) (fun i => [.cells ((eBook b).map .v)]) (fun i => l.length - i) (fun i => i ≤ l.length ∧ ((List.range i).any fun i => (l[i]?).any fun r => decide (place < r)) = false) 0 (Nat.zero_le _)
    ⟨rfl, rfl, rfl, rfl, rfl, trivial⟩ rfl ⟨Nat.zero_le _, rfl⟩ ?_
  rintro i ⟨hi, hno⟩
  simp -implicitDefEqProofs only [go_sem, ↓reduceIte, Nat.reduceEqDiff, Nat.reduceAdd, Nat.reduceLeDiff, vInts, vInt]
  refine condA_dec (fun h => ?_) (fun h => ?_)
  · have hlt : i < l.length := by omega
    simp -implicitDefEqProofs only [go_sem, ↓reduceIte, Nat.reduceEqDiff, Nat.reduceAdd, Nat.reduceLeDiff, List.getElem?_eq_getElem hlt, gt_iff_lt]
    by_cases hr : place < l[i]
    · simp -implicitDefEqProofs only [go_sem, ↓reduceIte, Nat.reduceEqDiff, Nat.reduceAdd, Nat.reduceLeDiff, hr]
      refine finK_v ⟨?_, rfl⟩
      rw [any_range_true hlt (by rw [List.getElem?_eq_getElem hlt]; simpa using hr)]; simp
    · simp -implicitDefEqProofs only [go_sem, ↓reduceIte, Nat.reduceEqDiff, Nat.reduceAdd, Nat.reduceLeDiff, hr, w64s (show i < 4611686018427387904 by omega)]
      exact next_of (i + 1) (by omega) ⟨by omega, by rw [any_range_succ, hno, List.getElem?_eq_getElem hlt]; simpa using hr⟩ (Nat.zero_le _) ⟨rfl, rfl, rfl, rfl, rfl, trivial⟩ rfl
  · simp -implicitDefEqProofs only [go_sem, ↓reduceIte, Nat.reduceEqDiff, Nat.reduceAdd, Nat.reduceLeDiff, gt_iff_lt]
    have hin : i = l.length := by omega
    subst hin
    refine finK_v ⟨?_, rfl⟩
    rw [hno]
    by_cases h0 : 0 < l.length
    · rw [decide_eq_true h0, decide_eq_true (by omega)]; rfl
    · rw [decide_eq_false h0, decide_eq_false (by omega)]; rfl

theorem mustC1 (team place : Int) (e : List Int × List Int) (r : Int) (h0 : 0 ≤ team) (hl : team.toNat < e.2.length) (hr : e.2[team.toNat] = r) :
    AFun Tryz.prog F.impl_MustFinish_c1 [dEnd e, DC (.ptr 0 0), DC (.ptr 1 0)] (mem2 team place) fun d m => d = DV (.bool (decide (place < r))) ∧ m = mem2 team place := by
  refine AFun.intro k_impl_MustFinish_c1 (by simp) ?_
  unfold c_impl_MustFinish_c1
  simp only [argE, Nat.reduceAdd]
  have hlt : team < (e.2.length : Int) := by omega
  simp only [dEnd, eEnd, mem2]
  simp -implicitDefEqProofs only [go_sem, ↓reduceIte, Nat.reduceEqDiff, Nat.reduceAdd, Nat.reduceLeDiff, vInts, h0, hlt, List.getElem?_eq_getElem hl, hr, gt_iff_lt]
  exact finK_drop (mem := mem2 team place) (mem2_wf _ _) trivial ⟨rfl, rfl⟩
theorem isFn_mustC1 : isFn Tryz.prog F.impl_MustFinish_c1 = true := by kernel_rfl

theorem implMustFinish (b : Book) (hf : Fits b) (hs : Small b) (team place : Int) : AFunD Tryz.prog F.impl_MustFinish [dBook b, DV (vInt team), DV (vInt place)] (DV (.bool (mustM b team place))) := by
  have hrl := ranksAt_len b team
  have hel := endsM_len b team
  have hrank := endsM_rank b team
  refine AFunD.intro k_impl_MustFinish (by simp) ?pure ?_
  case pure => first | exact D.pure_v _ | exact D.pure_vs _
  unfold c_impl_MustFinish
  simp only [argE, Nat.reduceAdd]
  simp only [dBook, eBook_eq]
  simp -implicitDefEqProofs only [go_sem, ↓reduceIte, Nat.reduceEqDiff, Nat.reduceAdd, Nat.reduceLeDiff]
  refine (implEndingsD b hf hs team).callp (.vs (eBook b) (.v _ .nil)) ?_
  rw [mustM]
  generalize ranksAt b team = l at *
  generalize endsM b team = L at *
  simp -implicitDefEqProofs only [go_sem, ↓reduceIte, Nat.reduceEqDiff, Nat.reduceAdd, Nat.reduceLeDiff, vEnds, gt_iff_lt]
  by_cases h0 : 0 < l.length
  · have h0' : (0 : Int) < L.length := by omega
    simp -implicitDefEqProofs only [go_sem, ↓reduceIte, Nat.reduceEqDiff, Nat.reduceAdd, Nat.reduceLeDiff, h0']
    have hidx : ∀ e ∈ L, ∃ r, 0 ≤ team ∧ ∃ h : team.toNat < e.2.length, e.2[team.toNat] = r := fun e he => by
      obtain ⟨i, hi, rfl⟩ := List.getElem_of_mem he
      obtain ⟨h1, h2, h3, _⟩ := hrank i hi (by omega)
      exact ⟨_, h2, h1, h3⟩
    refine handKeep [1, 2] (containsFuncEnd (l := L) (p := fun e => decide (place < e.2.getD team.toNat 0)) (by omega) isFn_mustC1 (caps := [(0, 0), (1, 0)]) (mem := mem2 team place) fun e he => ?_) (by simp) rfl (fun j b' hj => ?_)
      ⟨VwM.ren (.inr rfl) trivial, VwM.ren (d0 := DC (.fn F.impl_MustFinish_c1 [(0, 0), (1, 0)])) (.inr rfl) (fun p hp => by simp at hp; rcases hp with rfl | rfl <;> decide), trivial⟩ ?_
    · obtain ⟨r, k0, k1, k2⟩ := hidx e he
      refine mustC1 team place e _ k0 k1 ?_
      simp [k1]
    · match j, hj with
      | 0, hj => cases hj; exact ⟨⟨[.int .i64 team], rfl⟩, rfl⟩
      | 1, hj => cases hj; exact ⟨⟨[.int .i64 place], rfl⟩, rfl⟩
      | j + 2, hj => simp [mem2] at hj
    simp -implicitDefEqProofs only [go_sem, ↓reduceIte, Nat.reduceEqDiff, Nat.reduceAdd, Nat.reduceLeDiff]
    refine finK_v ⟨?_, rfl⟩
    rw [decide_eq_true h0, Bool.true_and, hel]
    congr 3
    refine any_congr fun i hi => ?_
    obtain ⟨h1, _, h3, _⟩ := hrank i (by omega) hi
    rw [List.getElem?_eq_getElem (by omega), List.getElem?_eq_getElem hi, Option.any_some, Option.any_some, ← h3, getD_of h1]
  · have h0' : ¬ (0 : Int) < L.length := by omega
    simp -implicitDefEqProofs only [go_sem, ↓reduceIte, Nat.reduceEqDiff, Nat.reduceAdd, Nat.reduceLeDiff, h0']
    exact finK_v ⟨by rw [decide_eq_false h0]; rfl, rfl⟩

end Go.Proofs.YtmfmiobehjgeiaaGreat.Ab

namespace Go.Proofs.YtmfmiobehjgeiaaGreat.Ab
open Go

theorem Small.of {b : Book} (h : szB b ≤ 1048576) : Small b := by
  unfold szB szT at h
  exact ⟨by omega, by omega, by omega, by omega, by omega⟩

theorem HasBook.of {m : List Blk} {i : Nat} {b : Book} (h0 : m[i]? = some (.cells (cOf eTeam b.field))) (h1 : m[i + 1]? = some (.cells (cOf eInt b.rules.ladder))) (h2 : m[i + 2]? = some (.cells (cOf eGame b.games))) (h3 : m[i + 3]? = some (.cells (cOf eInt b.fair))) (h4 : m[i + 4]? = some (.cells (cOf eInt b.taken))) : HasBook m i b := fun j k h => by
  match j, h with
  | 0, h => cases h; exact h0
  | 1, h => cases h; exact h1
  | 2, h => cases h; exact h2
  | 3, h => cases h; exact h3
  | 4, h => cases h; exact h4
  | j + 5, h => simp [memBook] at h

theorem lawMustFinish (b : Book) (hf : Fits b) (team place : Int) : AFun Tryz.prog F.laws_FnExactMustFinish [dBook b, DV (vInt team), DV (vInt place)] [] fun d _ => d = DV (.bool true) := by
  refine AFun.intro k_laws_FnExactMustFinish (by simp) ?_
  unfold c_laws_FnExactMustFinish
  simp only [argE, Nat.reduceAdd]
  simp only [dBook, eBook_eq]
  simp -implicitDefEqProofs only [go_sem, ↓reduceIte, Nat.reduceEqDiff, Nat.reduceAdd, Nat.reduceLeDiff]
  refine (szBook b 1048576 (by omega) (by omega) hf).callp (.vs (eBook b) (.v _ .nil)) ?_
  by_cases hz : (1048576 : Int) < szB b
  · rw [if_pos hz]
    simp -implicitDefEqProofs only [go_sem, ↓reduceIte, Nat.reduceEqDiff, Nat.reduceAdd, Nat.reduceLeDiff, Int.reduceLT]
    exact finK_v rfl
  rw [if_neg hz]
  have hs : Small b := Small.of (by omega)
  have hz' : ¬ (1048576 - (szB b : Int) < 0) := by omega
  simp -implicitDefEqProofs only [go_sem, ↓reduceIte, Nat.reduceEqDiff, Nat.reduceAdd, Nat.reduceLeDiff, hz']
  refine (toBook b hs).callp (.vs (eBook b) .nil) ?_
  rintro _ _ ⟨rfl, rfl⟩
  rw [shD_book, shB_book]
  simp -implicitDefEqProofs only [go_sem, ↓reduceIte, Nat.reduceEqDiff, Nat.reduceAdd, Nat.reduceLeDiff]
  refine (specMustFinish b hf hs team place).call (br := true) ⟨Vw.book (HasBook.tail [_] [] _), Vw.v _, Vw.v _, trivial⟩ (fun _ => rfl) ?_
  simp -implicitDefEqProofs only [go_sem, ↓reduceIte, Nat.reduceEqDiff, Nat.reduceAdd, Nat.reduceLeDiff, memBook, dBookOwn]
  refine (toBook b hs).callp (.vs (eBook b) .nil) ?_
  rintro _ _ ⟨rfl, rfl⟩
  rw [shD_book, shB_book]
  simp -implicitDefEqProofs only [go_sem, ↓reduceIte, Nat.reduceEqDiff, Nat.reduceAdd, Nat.reduceLeDiff, memBook, dBookOwn]
  refine (implMustFinish b hf hs team place).call (br := true) ⟨Vw.book (i := 6) (HasBook.of rfl rfl rfl rfl rfl), Vw.v _, Vw.v _, trivial⟩ (fun _ => rfl) ?_
  simp -implicitDefEqProofs only [go_sem, ↓reduceIte, Nat.reduceEqDiff, Nat.reduceAdd, Nat.reduceLeDiff, bne_self_eq_false, beq_self_eq_true]
  refine (toBook b hs).callp (.vs (eBook b) .nil) ?_
  rintro _ _ ⟨rfl, rfl⟩
  rw [shD_book, shB_book]
  simp -implicitDefEqProofs only [go_sem, ↓reduceIte, Nat.reduceEqDiff, Nat.reduceAdd, Nat.reduceLeDiff, memBook, dBookOwn]
  refine (eqBook b b hf.field hf.ladder hf.games hf.fair hf.taken).call (br := true) ⟨Vw.book (i := 6) (HasBook.of rfl rfl rfl rfl rfl), Vw.book (i := 12) (HasBook.of rfl rfl rfl rfl rfl), trivial⟩ (fun _ => rfl) ?_
  simp -implicitDefEqProofs only [go_sem, ↓reduceIte, Nat.reduceEqDiff, Nat.reduceAdd, Nat.reduceLeDiff, decide_true]
  exact finK_v rfl

end Go.Proofs.YtmfmiobehjgeiaaGreat.Ab

namespace Go.Proofs.YtmfmiobehjgeiaaGreat.Ab
open Go

/-- How many of the first i are so. -/
def cntUp (p : Int → Bool) (l : List Int) : Nat → Nat
  | 0 => 0
  | i + 1 => cntUp p l i + if (l[i]?).any p = true then 1 else 0
theorem cntUp_le (p : Int → Bool) (l : List Int) : ∀ i, cntUp p l i ≤ i
  | 0 => Nat.le_refl _
  | i + 1 => by have := cntUp_le p l i; rw [cntUp]; split <;> omega

def waysM (b : Book) (team rank : Int) : Nat := cntUp (fun r => decide (r = rank)) (ranksAt b team) (ranksAt b team).length
def goodM (b : Book) (team place : Int) : Nat := cntUp (fun r => decide (r ≤ place)) (ranksAt b team) (ranksAt b team).length
def decidedM (b : Book) (team place : Int) : Bool := decide (0 < (ranksAt b team).length) && (decide (goodM b team place = 0) || decide (goodM b team place = (ranksAt b team).length))

theorem specWays (b : Book) (hf : Fits b) (hs : Small b) (team place : Int) : AFunD Tryz.prog F.spec_WaysToRank [dBook b, DV (vInt team), DV (vInt place)] (DV (vInt (waysM b team place))) := by
  have hrl := ranksAt_len b team
  refine AFunD.intro k_spec_WaysToRank (by simp) ?pure ?_
  case pure => first | exact D.pure_v _ | exact D.pure_vs _
  unfold c_spec_WaysToRank
  simp only [argE, Nat.reduceAdd]
  simp only [dBook, eBook_eq]
  simp -implicitDefEqProofs only [go_sem, ↓reduceIte, Nat.reduceEqDiff, Nat.reduceAdd, Nat.reduceLeDiff]
  refine (specL16Ranks b hf hs team).callp (.vs (eBook b) (.v _ .nil)) ?_
  rw [waysM]
  generalize ranksAt b team = l at *
  simp -implicitDefEqProofs only [go_sem, ↓reduceIte, Nat.reduceEqDiff, Nat.reduceAdd, Nat.reduceLeDiff, vInts]
  refine loop_st (S := Nat) (fun i => [(2, DV (vInt place)), (7, DV (vInt (cntUp (fun r => decide (r = place)) l i))), (12, DV (vInts l)), (13, DV (vInt l.length)), (14, DV (vInt i))]) (fun i => [.cells ((eBook b).map .v)]) (fun i => l.length - i) (fun i => i ≤ l.length) 0 (Nat.zero_le _)
    ⟨rfl, rfl, rfl, rfl, rfl, trivial⟩ rfl (Nat.zero_le _) ?_
  intro i hi
  have hcl := cntUp_le (fun r => decide (r = place)) l i
  simp -implicitDefEqProofs only [go_sem, ↓reduceIte, Nat.reduceEqDiff, Nat.reduceAdd, Nat.reduceLeDiff, vInts, vInt]
  refine condA_dec (fun h => ?_) (fun h => ?_)
  · have hlt : i < l.length := by omega
    by_cases hr : l[i] = place
    · have e1 : cntUp (fun r => decide (r = place)) l (i + 1) = cntUp (fun r => decide (r = place)) l i + 1 := by rw [cntUp, if_pos (by rw [List.getElem?_eq_getElem hlt]; simpa using hr)]
      simp -implicitDefEqProofs only [go_sem, ↓reduceIte, Nat.reduceEqDiff, Nat.reduceAdd, Nat.reduceLeDiff, List.getElem?_eq_getElem hlt, hr, w64s (show i < 4611686018427387904 by omega), w64s (show cntUp (fun r => decide (r = place)) l i < 4611686018427387904 by omega)]
      exact next_of (i + 1) (by omega) (by omega) (Nat.zero_le _) ⟨rfl, (by rw [e1]; rfl), rfl, rfl, rfl, trivial⟩ rfl
    · have e1 : cntUp (fun r => decide (r = place)) l (i + 1) = cntUp (fun r => decide (r = place)) l i := by rw [cntUp, if_neg (by rw [List.getElem?_eq_getElem hlt]; simpa using hr)]; rfl
      simp -implicitDefEqProofs only [go_sem, ↓reduceIte, Nat.reduceEqDiff, Nat.reduceAdd, Nat.reduceLeDiff, List.getElem?_eq_getElem hlt, hr, w64s (show i < 4611686018427387904 by omega)]
      exact next_of (i + 1) (by omega) (by omega) (Nat.zero_le _) ⟨rfl, (by rw [e1]; rfl), rfl, rfl, rfl, trivial⟩ rfl
  · have hin : i = l.length := by omega
    subst hin
    simp -implicitDefEqProofs only [go_sem, ↓reduceIte, Nat.reduceEqDiff, Nat.reduceAdd, Nat.reduceLeDiff]
    exact finK_v ⟨by rfl, rfl⟩

theorem implWays (b : Book) (hf : Fits b) (hs : Small b) (team place : Int) : AFunD Tryz.prog F.impl_WaysToRank [dBook b, DV (vInt team), DV (vInt place)] (DV (vInt (waysM b team place))) := by
  have hrl := ranksAt_len b team
  have hel := endsM_len b team
  have hrank := endsM_rank b team
  refine AFunD.intro k_impl_WaysToRank (by simp) ?pure ?_
  case pure => first | exact D.pure_v _ | exact D.pure_vs _
  unfold c_impl_WaysToRank
  simp only [argE, Nat.reduceAdd]
  simp only [dBook, eBook_eq]
  simp -implicitDefEqProofs only [go_sem, ↓reduceIte, Nat.reduceEqDiff, Nat.reduceAdd, Nat.reduceLeDiff]
  refine (implEndingsD b hf hs team).callp (.vs (eBook b) (.v _ .nil)) ?_
  rw [waysM]
  generalize ranksAt b team = l at *
  generalize endsM b team = L at *
  simp -implicitDefEqProofs only [go_sem, ↓reduceIte, Nat.reduceEqDiff, Nat.reduceAdd, Nat.reduceLeDiff, vEnds]
  refine loop_st (S := Nat) (fun i => [(1, DV (vInt team)), (2, DV (vInt place)), (7, DV (vInt (cntUp (fun r => decide (r = place)) l i))), (12, DV (vEnds L)), (13, DV (vInt L.length)), (14, DV (vInt i))]) (fun i => [.cells ((eBook b).map .v)]) (fun i => L.length - i) (fun i => i ≤ L.length) 0 (Nat.zero_le _)
    ⟨rfl, rfl, rfl, rfl, rfl, rfl, trivial⟩ rfl (Nat.zero_le _) ?_
  intro i hi
  have hcl := cntUp_le (fun r => decide (r = place)) l i
  simp only [eBook_eq]
  simp -implicitDefEqProofs only [go_sem, ↓reduceIte, Nat.reduceEqDiff, Nat.reduceAdd, Nat.reduceLeDiff, vEnds, vInt]
  refine condA_dec (fun h => ?_) (fun h => ?_)
  · have hlt : i < l.length := by omega
    have hltL : i < L.length := by omega
    obtain ⟨k1, k2, k3, k4⟩ := hrank i hltL hlt
    have k5 : team < (L[i].2.length : Int) := by omega
    have hdrop : ∀ X : List Blk, X.length = 1 → True := fun _ _ => trivial
    by_cases hr : l[i] = place
    · have e1 : cntUp (fun r => decide (r = place)) l (i + 1) = cntUp (fun r => decide (r = place)) l i + 1 := by rw [cntUp, if_pos (by rw [List.getElem?_eq_getElem hlt]; simpa using hr)]
      simp -implicitDefEqProofs only [go_sem, ↓reduceIte, Nat.reduceEqDiff, Nat.reduceAdd, Nat.reduceLeDiff, List.getElem?_eq_getElem hltL, eEnd, vInts, k2, k5, List.getElem?_eq_getElem k1, k3, hr, w64s (show i < 4611686018427387904 by omega), w64s (show cntUp (fun r => decide (r = place)) l i < 4611686018427387904 by omega)]
      exact next_drop (i + 1) _ (by omega) (by omega) (WfM.data fun x hx => by simp only [List.mem_cons, List.not_mem_nil, or_false] at hx; subst hx; exact ⟨eBook b, rfl⟩) (Nat.zero_le _) ⟨rfl, rfl, (by rw [e1]; rfl), rfl, rfl, rfl, trivial⟩ ⟨trivial, trivial, trivial, trivial, trivial, trivial, trivial⟩ rfl
    · have e1 : cntUp (fun r => decide (r = place)) l (i + 1) = cntUp (fun r => decide (r = place)) l i := by rw [cntUp, if_neg (by rw [List.getElem?_eq_getElem hlt]; simpa using hr)]; rfl
      simp -implicitDefEqProofs only [go_sem, ↓reduceIte, Nat.reduceEqDiff, Nat.reduceAdd, Nat.reduceLeDiff, List.getElem?_eq_getElem hltL, eEnd, vInts, k2, k5, List.getElem?_eq_getElem k1, k3, hr, w64s (show i < 4611686018427387904 by omega)]
      exact next_drop (i + 1) _ (by omega) (by omega) (WfM.data fun x hx => by simp only [List.mem_cons, List.not_mem_nil, or_false] at hx; subst hx; exact ⟨eBook b, rfl⟩) (Nat.zero_le _) ⟨rfl, rfl, (by rw [e1]; rfl), rfl, rfl, rfl, trivial⟩ ⟨trivial, trivial, trivial, trivial, trivial, trivial, trivial⟩ rfl
  · have hin : i = l.length := by omega
    subst hin
    simp -implicitDefEqProofs only [go_sem, ↓reduceIte, Nat.reduceEqDiff, Nat.reduceAdd, Nat.reduceLeDiff]
    exact finK_v ⟨by rfl, rfl⟩

theorem specDecided (b : Book) (hf : Fits b) (hs : Small b) (team place : Int) : AFunD Tryz.prog F.spec_IsDecided [dBook b, DV (vInt team), DV (vInt place)] (DV (.bool (decidedM b team place))) := by
  have hrl := ranksAt_len b team
  refine AFunD.intro k_spec_IsDecided (by simp) ?pure ?_
  case pure => first | exact D.pure_v _ | exact D.pure_vs _
  unfold c_spec_IsDecided
  simp only [argE, Nat.reduceAdd]
  simp only [dBook, eBook_eq]
  simp -implicitDefEqProofs only [go_sem, ↓reduceIte, Nat.reduceEqDiff, Nat.reduceAdd, Nat.reduceLeDiff]
  refine (specL16Ranks b hf hs team).callp (.vs (eBook b) (.v _ .nil)) ?_
  rw [decidedM, goodM]
  generalize ranksAt b team = l at *
  simp -implicitDefEqProofs only [go_sem, ↓reduceIte, Nat.reduceEqDiff, Nat.reduceAdd, Nat.reduceLeDiff, vInts]
  refine loop_st (S := Nat) (fun i => [(2, DV (vInt place)), (7, DV (vInts l)), (8, DV (vInt (cntUp (fun r => decide (r ≤ place)) l i))), (14, DV (vInts l)), (15, DV (vInt l.length)), (16, DV (vInt i))]) (fun i => [.cells ((eBook b).map .v)]) (fun i => l.length - i) (fun i => i ≤ l.length) 0 (Nat.zero_le _)
    ⟨rfl, rfl, rfl, rfl, rfl, rfl, trivial⟩ rfl (Nat.zero_le _) ?_
  intro i hi
  have hcl := cntUp_le (fun r => decide (r ≤ place)) l i
  simp -implicitDefEqProofs only [go_sem, ↓reduceIte, Nat.reduceEqDiff, Nat.reduceAdd, Nat.reduceLeDiff, vInts, vInt]
  refine condA_dec (fun h => ?_) (fun h => ?_)
  · have hlt : i < l.length := by omega
    by_cases hr : l[i] ≤ place
    · have e1 : cntUp (fun r => decide (r ≤ place)) l (i + 1) = cntUp (fun r => decide (r ≤ place)) l i + 1 := by rw [cntUp, if_pos (by rw [List.getElem?_eq_getElem hlt]; simpa using hr)]
      simp -implicitDefEqProofs only [go_sem, ↓reduceIte, Nat.reduceEqDiff, Nat.reduceAdd, Nat.reduceLeDiff, List.getElem?_eq_getElem hlt, hr, w64s (show i < 4611686018427387904 by omega), w64s (show cntUp (fun r => decide (r ≤ place)) l i < 4611686018427387904 by omega)]
      exact next_of (i + 1) (by omega) (by omega) (Nat.zero_le _) ⟨rfl, rfl, (by rw [e1]; rfl), rfl, rfl, rfl, trivial⟩ rfl
    · have e1 : cntUp (fun r => decide (r ≤ place)) l (i + 1) = cntUp (fun r => decide (r ≤ place)) l i := by rw [cntUp, if_neg (by rw [List.getElem?_eq_getElem hlt]; simpa using hr)]; rfl
      simp -implicitDefEqProofs only [go_sem, ↓reduceIte, Nat.reduceEqDiff, Nat.reduceAdd, Nat.reduceLeDiff, List.getElem?_eq_getElem hlt, hr, w64s (show i < 4611686018427387904 by omega)]
      exact next_of (i + 1) (by omega) (by omega) (Nat.zero_le _) ⟨rfl, rfl, (by rw [e1]; rfl), rfl, rfl, rfl, trivial⟩ rfl
  · have hin : i = l.length := by omega
    subst hin
    simp -implicitDefEqProofs only [go_sem, ↓reduceIte, Nat.reduceEqDiff, Nat.reduceAdd, Nat.reduceLeDiff, vInts, vEnds, gt_iff_lt]
    by_cases h0 : 0 < l.length
    · have h0' : (0 : Int) < l.length := by omega
      have h0'' : (0 : Int) < l.length := by omega
      by_cases hg : cntUp (fun r => decide (r ≤ place)) l l.length = 0
      · have hg' : ((cntUp (fun r => decide (r ≤ place)) l l.length : Nat) : Int) = 0 := by omega
        simp -implicitDefEqProofs only [go_sem, ↓reduceIte, Nat.reduceEqDiff, Nat.reduceAdd, Nat.reduceLeDiff, h0', h0'', hg']
        exact finK_v ⟨by rw [hg, decide_eq_true h0]; rfl, rfl⟩
      · have hg' : ¬ ((cntUp (fun r => decide (r ≤ place)) l l.length : Nat) : Int) = 0 := by omega
        simp -implicitDefEqProofs only [go_sem, ↓reduceIte, Nat.reduceEqDiff, Nat.reduceAdd, Nat.reduceLeDiff, h0', h0'', hg']
        refine finK_v ⟨?_, rfl⟩
        rw [decide_eq_true h0, decide_eq_false hg, Bool.true_and, Bool.false_or]
        by_cases he : cntUp (fun r => decide (r ≤ place)) l l.length = l.length
        · rw [decide_eq_true he, decide_eq_true (by omega)]
        · rw [decide_eq_false he, decide_eq_false (by omega)]
    · have h0' : ¬ (0 : Int) < l.length := by omega
      have h0'' : ¬ (0 : Int) < l.length := by omega
      simp -implicitDefEqProofs only [go_sem, ↓reduceIte, Nat.reduceEqDiff, Nat.reduceAdd, Nat.reduceLeDiff, h0', h0'']
      exact finK_v ⟨by rw [decide_eq_false h0]; rfl, rfl⟩

theorem implDecided (b : Book) (hf : Fits b) (hs : Small b) (team place : Int) : AFunD Tryz.prog F.impl_IsDecided [dBook b, DV (vInt team), DV (vInt place)] (DV (.bool (decidedM b team place))) := by
  have hrl := ranksAt_len b team
  have hel := endsM_len b team
  have hrank := endsM_rank b team
  refine AFunD.intro k_impl_IsDecided (by simp) ?pure ?_
  case pure => first | exact D.pure_v _ | exact D.pure_vs _
  unfold c_impl_IsDecided
  simp only [argE, Nat.reduceAdd]
  simp only [dBook, eBook_eq]
  simp -implicitDefEqProofs only [go_sem, ↓reduceIte, Nat.reduceEqDiff, Nat.reduceAdd, Nat.reduceLeDiff]
  refine (implEndingsD b hf hs team).callp (.vs (eBook b) (.v _ .nil)) ?_
  rw [decidedM, goodM]
  generalize ranksAt b team = l at *
  generalize endsM b team = L at *
  simp -implicitDefEqProofs only [go_sem, ↓reduceIte, Nat.reduceEqDiff, Nat.reduceAdd, Nat.reduceLeDiff, vEnds]
  refine loop_st (S := Nat) (fun i => [(1, DV (vInt team)), (2, DV (vInt place)), (7, DV (vEnds L)), (8, DV (vInt (cntUp (fun r => decide (r ≤ place)) l i))), (14, DV (vEnds L)), (15, DV (vInt L.length)), (16, DV (vInt i))]) (fun i => [.cells ((eBook b).map .v)]) (fun i => L.length - i) (fun i => i ≤ L.length) 0 (Nat.zero_le _)
    ⟨rfl, rfl, rfl, rfl, rfl, rfl, rfl, trivial⟩ rfl (Nat.zero_le _) ?_
  intro i hi
  have hcl := cntUp_le (fun r => decide (r ≤ place)) l i
  simp only [eBook_eq]
  simp -implicitDefEqProofs only [go_sem, ↓reduceIte, Nat.reduceEqDiff, Nat.reduceAdd, Nat.reduceLeDiff, vEnds, vInt]
  refine condA_dec (fun h => ?_) (fun h => ?_)
  · have hlt : i < l.length := by omega
    have hltL : i < L.length := by omega
    obtain ⟨k1, k2, k3, k4⟩ := hrank i hltL hlt
    have k5 : team < (L[i].2.length : Int) := by omega
    have hdrop : ∀ X : List Blk, X.length = 1 → True := fun _ _ => trivial
    by_cases hr : l[i] ≤ place
    · have e1 : cntUp (fun r => decide (r ≤ place)) l (i + 1) = cntUp (fun r => decide (r ≤ place)) l i + 1 := by rw [cntUp, if_pos (by rw [List.getElem?_eq_getElem hlt]; simpa using hr)]
      simp -implicitDefEqProofs only [go_sem, ↓reduceIte, Nat.reduceEqDiff, Nat.reduceAdd, Nat.reduceLeDiff, List.getElem?_eq_getElem hltL, eEnd, vInts, k2, k5, List.getElem?_eq_getElem k1, k3, hr, w64s (show i < 4611686018427387904 by omega), w64s (show cntUp (fun r => decide (r ≤ place)) l i < 4611686018427387904 by omega)]
      exact next_drop (i + 1) _ (by omega) (by omega) (WfM.data fun x hx => by simp only [List.mem_cons, List.not_mem_nil, or_false] at hx; subst hx; exact ⟨eBook b, rfl⟩) (Nat.zero_le _) ⟨rfl, rfl, rfl, (by rw [e1]; rfl), rfl, rfl, rfl, trivial⟩ ⟨trivial, trivial, trivial, trivial, trivial, trivial, trivial, trivial⟩ rfl
    · have e1 : cntUp (fun r => decide (r ≤ place)) l (i + 1) = cntUp (fun r => decide (r ≤ place)) l i := by rw [cntUp, if_neg (by rw [List.getElem?_eq_getElem hlt]; simpa using hr)]; rfl
      simp -implicitDefEqProofs only [go_sem, ↓reduceIte, Nat.reduceEqDiff, Nat.reduceAdd, Nat.reduceLeDiff, List.getElem?_eq_getElem hltL, eEnd, vInts, k2, k5, List.getElem?_eq_getElem k1, k3, hr, w64s (show i < 4611686018427387904 by omega)]
      exact next_drop (i + 1) _ (by omega) (by omega) (WfM.data fun x hx => by simp only [List.mem_cons, List.not_mem_nil, or_false] at hx; subst hx; exact ⟨eBook b, rfl⟩) (Nat.zero_le _) ⟨rfl, rfl, rfl, (by rw [e1]; rfl), rfl, rfl, rfl, trivial⟩ ⟨trivial, trivial, trivial, trivial, trivial, trivial, trivial, trivial⟩ rfl
  · have hin : i = l.length := by omega
    subst hin
    simp -implicitDefEqProofs only [go_sem, ↓reduceIte, Nat.reduceEqDiff, Nat.reduceAdd, Nat.reduceLeDiff, vInts, vEnds, gt_iff_lt]
    by_cases h0 : 0 < l.length
    · have h0' : (0 : Int) < l.length := by omega
      have h0'' : (0 : Int) < L.length := by omega
      by_cases hg : cntUp (fun r => decide (r ≤ place)) l l.length = 0
      · have hg' : ((cntUp (fun r => decide (r ≤ place)) l l.length : Nat) : Int) = 0 := by omega
        simp -implicitDefEqProofs only [go_sem, ↓reduceIte, Nat.reduceEqDiff, Nat.reduceAdd, Nat.reduceLeDiff, h0', h0'', hg']
        exact finK_v ⟨by rw [hg, decide_eq_true h0]; rfl, rfl⟩
      · have hg' : ¬ ((cntUp (fun r => decide (r ≤ place)) l l.length : Nat) : Int) = 0 := by omega
        simp -implicitDefEqProofs only [go_sem, ↓reduceIte, Nat.reduceEqDiff, Nat.reduceAdd, Nat.reduceLeDiff, h0', h0'', hg']
        refine finK_v ⟨?_, rfl⟩
        rw [decide_eq_true h0, decide_eq_false hg, Bool.true_and, Bool.false_or]
        by_cases he : cntUp (fun r => decide (r ≤ place)) l l.length = l.length
        · rw [decide_eq_true he, decide_eq_true (by omega)]
        · rw [decide_eq_false he, decide_eq_false (by omega)]
    · have h0' : ¬ (0 : Int) < l.length := by omega
      have h0'' : ¬ (0 : Int) < L.length := by omega
      simp -implicitDefEqProofs only [go_sem, ↓reduceIte, Nat.reduceEqDiff, Nat.reduceAdd, Nat.reduceLeDiff, h0', h0'']
      exact finK_v ⟨by rw [decide_eq_false h0]; rfl, rfl⟩

end Go.Proofs.YtmfmiobehjgeiaaGreat.Ab

namespace Go.Proofs.YtmfmiobehjgeiaaGreat.Ab
open Go

theorem lawWays (b : Book) (hf : Fits b) (team place : Int) : AFun Tryz.prog F.laws_FnExactWaysToRank [dBook b, DV (vInt team), DV (vInt place)] [] fun d _ => d = DV (.bool true) := by
  refine AFun.intro k_laws_FnExactWaysToRank (by simp) ?_
  unfold c_laws_FnExactWaysToRank
  simp only [argE, Nat.reduceAdd]
  simp only [dBook, eBook_eq]
  simp -implicitDefEqProofs only [go_sem, ↓reduceIte, Nat.reduceEqDiff, Nat.reduceAdd, Nat.reduceLeDiff]
  refine (szBook b 1048576 (by omega) (by omega) hf).callp (.vs (eBook b) (.v _ .nil)) ?_
  by_cases hz : (1048576 : Int) < szB b
  · rw [if_pos hz]
    simp -implicitDefEqProofs only [go_sem, ↓reduceIte, Nat.reduceEqDiff, Nat.reduceAdd, Nat.reduceLeDiff, Int.reduceLT]
    exact finK_v rfl
  rw [if_neg hz]
  have hs : Small b := Small.of (by omega)
  have hz' : ¬ (1048576 - (szB b : Int) < 0) := by omega
  simp -implicitDefEqProofs only [go_sem, ↓reduceIte, Nat.reduceEqDiff, Nat.reduceAdd, Nat.reduceLeDiff, hz']
  refine (toBook b hs).callp (.vs (eBook b) .nil) ?_
  rintro _ _ ⟨rfl, rfl⟩
  rw [shD_book, shB_book]
  simp -implicitDefEqProofs only [go_sem, ↓reduceIte, Nat.reduceEqDiff, Nat.reduceAdd, Nat.reduceLeDiff]
  refine (specWays b hf hs team place).call (br := true) ⟨Vw.book (HasBook.tail [_] [] _), Vw.v _, Vw.v _, trivial⟩ (fun _ => rfl) ?_
  simp -implicitDefEqProofs only [go_sem, ↓reduceIte, Nat.reduceEqDiff, Nat.reduceAdd, Nat.reduceLeDiff, memBook, dBookOwn]
  refine (toBook b hs).callp (.vs (eBook b) .nil) ?_
  rintro _ _ ⟨rfl, rfl⟩
  rw [shD_book, shB_book]
  simp -implicitDefEqProofs only [go_sem, ↓reduceIte, Nat.reduceEqDiff, Nat.reduceAdd, Nat.reduceLeDiff, memBook, dBookOwn]
  refine (implWays b hf hs team place).call (br := true) ⟨Vw.book (i := 6) (HasBook.of rfl rfl rfl rfl rfl), Vw.v _, Vw.v _, trivial⟩ (fun _ => rfl) ?_
  simp -implicitDefEqProofs only [go_sem, ↓reduceIte, Nat.reduceEqDiff, Nat.reduceAdd, Nat.reduceLeDiff, bne_self_eq_false, beq_self_eq_true]
  refine (toBook b hs).callp (.vs (eBook b) .nil) ?_
  rintro _ _ ⟨rfl, rfl⟩
  rw [shD_book, shB_book]
  simp -implicitDefEqProofs only [go_sem, ↓reduceIte, Nat.reduceEqDiff, Nat.reduceAdd, Nat.reduceLeDiff, memBook, dBookOwn]
  refine (eqBook b b hf.field hf.ladder hf.games hf.fair hf.taken).call (br := true) ⟨Vw.book (i := 6) (HasBook.of rfl rfl rfl rfl rfl), Vw.book (i := 12) (HasBook.of rfl rfl rfl rfl rfl), trivial⟩ (fun _ => rfl) ?_
  simp -implicitDefEqProofs only [go_sem, ↓reduceIte, Nat.reduceEqDiff, Nat.reduceAdd, Nat.reduceLeDiff, decide_true]
  exact finK_v rfl

theorem lawDecided (b : Book) (hf : Fits b) (team place : Int) : AFun Tryz.prog F.laws_FnExactIsDecided [dBook b, DV (vInt team), DV (vInt place)] [] fun d _ => d = DV (.bool true) := by
  refine AFun.intro k_laws_FnExactIsDecided (by simp) ?_
  unfold c_laws_FnExactIsDecided
  simp only [argE, Nat.reduceAdd]
  simp only [dBook, eBook_eq]
  simp -implicitDefEqProofs only [go_sem, ↓reduceIte, Nat.reduceEqDiff, Nat.reduceAdd, Nat.reduceLeDiff]
  refine (szBook b 1048576 (by omega) (by omega) hf).callp (.vs (eBook b) (.v _ .nil)) ?_
  by_cases hz : (1048576 : Int) < szB b
  · rw [if_pos hz]
    simp -implicitDefEqProofs only [go_sem, ↓reduceIte, Nat.reduceEqDiff, Nat.reduceAdd, Nat.reduceLeDiff, Int.reduceLT]
    exact finK_v rfl
  rw [if_neg hz]
  have hs : Small b := Small.of (by omega)
  have hz' : ¬ (1048576 - (szB b : Int) < 0) := by omega
  simp -implicitDefEqProofs only [go_sem, ↓reduceIte, Nat.reduceEqDiff, Nat.reduceAdd, Nat.reduceLeDiff, hz']
  refine (toBook b hs).callp (.vs (eBook b) .nil) ?_
  rintro _ _ ⟨rfl, rfl⟩
  rw [shD_book, shB_book]
  simp -implicitDefEqProofs only [go_sem, ↓reduceIte, Nat.reduceEqDiff, Nat.reduceAdd, Nat.reduceLeDiff]
  refine (specDecided b hf hs team place).call (br := true) ⟨Vw.book (HasBook.tail [_] [] _), Vw.v _, Vw.v _, trivial⟩ (fun _ => rfl) ?_
  simp -implicitDefEqProofs only [go_sem, ↓reduceIte, Nat.reduceEqDiff, Nat.reduceAdd, Nat.reduceLeDiff, memBook, dBookOwn]
  refine (toBook b hs).callp (.vs (eBook b) .nil) ?_
  rintro _ _ ⟨rfl, rfl⟩
  rw [shD_book, shB_book]
  simp -implicitDefEqProofs only [go_sem, ↓reduceIte, Nat.reduceEqDiff, Nat.reduceAdd, Nat.reduceLeDiff, memBook, dBookOwn]
  refine (implDecided b hf hs team place).call (br := true) ⟨Vw.book (i := 6) (HasBook.of rfl rfl rfl rfl rfl), Vw.v _, Vw.v _, trivial⟩ (fun _ => rfl) ?_
  simp -implicitDefEqProofs only [go_sem, ↓reduceIte, Nat.reduceEqDiff, Nat.reduceAdd, Nat.reduceLeDiff, bne_self_eq_false, beq_self_eq_true]
  refine (toBook b hs).callp (.vs (eBook b) .nil) ?_
  rintro _ _ ⟨rfl, rfl⟩
  rw [shD_book, shB_book]
  simp -implicitDefEqProofs only [go_sem, ↓reduceIte, Nat.reduceEqDiff, Nat.reduceAdd, Nat.reduceLeDiff, memBook, dBookOwn]
  refine (eqBook b b hf.field hf.ladder hf.games hf.fair hf.taken).call (br := true) ⟨Vw.book (i := 6) (HasBook.of rfl rfl rfl rfl rfl), Vw.book (i := 12) (HasBook.of rfl rfl rfl rfl rfl), trivial⟩ (fun _ => rfl) ?_
  simp -implicitDefEqProofs only [go_sem, ↓reduceIte, Nat.reduceEqDiff, Nat.reduceAdd, Nat.reduceLeDiff, decide_true]
  exact finK_v rfl

end Go.Proofs.YtmfmiobehjgeiaaGreat.Ab
