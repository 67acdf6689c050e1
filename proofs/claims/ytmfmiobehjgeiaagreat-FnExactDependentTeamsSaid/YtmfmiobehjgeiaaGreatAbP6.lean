/- A law's arguments as data, and what its contract gives. Endings as data; the ranks in them. Who must finish where, in how many ways, and whether it is decided, on both sides: walked. The laws of who must finish where: walked. In how many ways a team has a rank, and whether its place is decided, on both sides: walked. The laws of the ways to a rank, and of what is decided: walked. How a team can finish, on both sides: walked. The law of how a team can finish: walked. Chances by the outcome of a game, on both sides: walked. The law of chances: walked. Weights of games, on both sides: walked. The laws of weights: walked. slices.DeleteFunc over an own list of ints: walked. Teams that hang on a game: plain; the program's filter. Teams that hang on a game, by the program: walked. Teams that hang on a game, by the reference: walked. The law of teams that hang on a game: walked. -/
import Derived.Test.YtmfmiobehjgeiaaGreatAbP5
set_option linter.unusedVariables false
set_option linter.unusedSimpArgs false

namespace Go.Proofs.YtmfmiobehjgeiaaGreat.Ab
open Go

theorem decode_list {α : Type} {ts : List Ty} {f : α → List V} {p : α → Prop} (hd : ∀ c, fitVs ts c → ∃ x : α, c = f x ∧ p x) : ∀ {es : List (List V)}, fitEs ts es → ∃ l : List α, es = l.map f ∧ l.length = es.length ∧ ∀ x ∈ l, p x
  | [], _ => ⟨[], rfl, rfl, fun x h => by simp at h⟩
  | c :: r, h => by
    simp only [fitEs] at h
    obtain ⟨x, rfl, hx⟩ := hd c h.1
    obtain ⟨l, rfl, h2, h3⟩ := decode_list hd h.2
    exact ⟨x :: l, rfl, by simp, fun y hy => by
      rcases List.mem_cons.1 hy with rfl | hy
      · exact hx
      · exact h3 y hy⟩

theorem fitV_int {v : V} (h : fitV .int v) : ∃ n, v = .int .i64 n ∧ -9223372036854775808 ≤ n ∧ n ≤ 9223372036854775807 := by
  cases v with
  | int k n => cases k <;> simp only [fitV] at h; exact ⟨n, rfl, h⟩
  | _ => simp only [fitV] at h
theorem fitV_bool {v : V} (h : fitV .bool v) : ∃ b, v = .bool b := by
  cases v with
  | bool b => exact ⟨b, rfl⟩
  | _ => simp only [fitV] at h
theorem fitV_str {v : V} (h : fitV .str v) : ∃ s, v = .str s ∧ s.length ≤ 140737488355328 := by
  cases v with
  | str s => simp only [fitV] at h; exact ⟨s, rfl, h⟩
  | _ => simp only [fitV] at h
theorem fitV_sl {α : Type} {ts : List Ty} {v : V} {f : α → List V} {p : α → Prop} (hd : ∀ c, fitVs ts c → ∃ x : α, c = f x ∧ p x) (h : fitV (.sl ts) v) : ∃ l : List α, v = .ro ts.length (l.map f) ∧ l.length ≤ 140737488355328 ∧ ∀ x ∈ l, p x := by
  cases v with
  | ro sz es =>
    simp only [fitV] at h
    obtain ⟨rfl, h2, h3⟩ := h
    obtain ⟨l, rfl, h4, h5⟩ := decode_list hd h3
    exact ⟨l, rfl, by omega, h5⟩
  | _ => simp only [fitV] at h

theorem fitVs_cons {t : Ty} {r : List Ty} {ys : List V} (h : fitVs (t :: r) ys) : ∃ v s, ys = v :: s ∧ fitV t v ∧ fitVs r s := by
  cases ys with
  | nil => simp [fitVs] at h
  | cons v s => simp only [fitVs] at h; exact ⟨v, s, rfl, h.1, h.2⟩
theorem fitVs_nil {ys : List V} (h : fitVs [] ys) : ys = [] := by
  cases ys with
  | nil => rfl
  | cons v s => simp [fitVs] at h

theorem dec_int (c : List V) (h : fitVs [.int] c) : ∃ x : Int, c = [.int .i64 x] ∧ True := by
  obtain ⟨v, s, rfl, h1, h2⟩ := fitVs_cons h
  obtain rfl := fitVs_nil h2
  obtain ⟨n, rfl, _⟩ := fitV_int h1
  exact ⟨n, rfl, trivial⟩
theorem dec_team (c : List V) (h : fitVs [.str, .int, .int] c) : ∃ x : Team, c = eTeam x ∧ x.name.length ≤ 140737488355328 := by
  obtain ⟨_, _, rfl, h1, h⟩ := fitVs_cons h
  obtain ⟨_, _, rfl, h2, h⟩ := fitVs_cons h
  obtain ⟨_, _, rfl, h3, h⟩ := fitVs_cons h
  obtain rfl := fitVs_nil h
  obtain ⟨s, rfl, hs⟩ := fitV_str h1
  obtain ⟨a, rfl, _⟩ := fitV_int h2
  obtain ⟨b, rfl, _⟩ := fitV_int h3
  exact ⟨⟨s, a, b⟩, rfl, hs⟩
theorem dec_game (c : List V) (h : fitVs [.int, .int, .int, .int, .int] c) : ∃ x : Game, c = eGame x ∧ True := by
  obtain ⟨_, _, rfl, h1, h⟩ := fitVs_cons h
  obtain ⟨_, _, rfl, h2, h⟩ := fitVs_cons h
  obtain ⟨_, _, rfl, h3, h⟩ := fitVs_cons h
  obtain ⟨_, _, rfl, h4, h⟩ := fitVs_cons h
  obtain ⟨_, _, rfl, h5, h⟩ := fitVs_cons h
  obtain rfl := fitVs_nil h
  obtain ⟨a, rfl, _⟩ := fitV_int h1
  obtain ⟨b, rfl, _⟩ := fitV_int h2
  obtain ⟨c, rfl, _⟩ := fitV_int h3
  obtain ⟨d, rfl, _⟩ := fitV_int h4
  obtain ⟨e, rfl, _⟩ := fitV_int h5
  exact ⟨⟨a, b, c, d, e⟩, rfl, trivial⟩

def tyBook : List Ty := [.sl [.str, .int, .int], .int, .int, .int, .sl [.int], .bool, .sl [.int, .int, .int, .int, .int], .sl [.int], .sl [.int]]
theorem dec_book (c : List V) (h : fitVs tyBook c) : ∃ b : Book, c = eBook b ∧ Fits b := by
  obtain ⟨_, _, rfl, h1, h⟩ := fitVs_cons h
  obtain ⟨_, _, rfl, h2, h⟩ := fitVs_cons h
  obtain ⟨_, _, rfl, h3, h⟩ := fitVs_cons h
  obtain ⟨_, _, rfl, h4, h⟩ := fitVs_cons h
  obtain ⟨_, _, rfl, h5, h⟩ := fitVs_cons h
  obtain ⟨_, _, rfl, h6, h⟩ := fitVs_cons h
  obtain ⟨_, _, rfl, h7, h⟩ := fitVs_cons h
  obtain ⟨_, _, rfl, h8, h⟩ := fitVs_cons h
  obtain ⟨_, _, rfl, h9, h⟩ := fitVs_cons h
  obtain rfl := fitVs_nil h
  obtain ⟨field, rfl, f1, f2⟩ := fitV_sl dec_team h1
  obtain ⟨a, rfl, _⟩ := fitV_int h2
  obtain ⟨b, rfl, _⟩ := fitV_int h3
  obtain ⟨c, rfl, _⟩ := fitV_int h4
  obtain ⟨ladder, rfl, l1, _⟩ := fitV_sl dec_int h5
  obtain ⟨again, rfl⟩ := fitV_bool h6
  obtain ⟨games, rfl, g1, _⟩ := fitV_sl dec_game h7
  obtain ⟨fair, rfl, r1, _⟩ := fitV_sl dec_int h8
  obtain ⟨taken, rfl, t1, _⟩ := fitV_sl dec_int h9
  exact ⟨⟨field, ⟨a, b, c, ladder, again⟩, games, fair, taken⟩, rfl, ⟨by show field.length < _; omega, fun t ht => by have := f2 t ht; omega, by show ladder.length < _; omega, by show games.length < _; omega, by show fair.length < _; omega, by show taken.length < _; omega⟩⟩

section
variable {H : Type} {enc : TypeId × Value → H} {P : Program} {W : World} {sp : Nat → Bool} {held : Bool}

theorem arg_struct {n : Nat} {t : TypeId} {ts : List Ty} {fs : Array Field} {v : Value} {d : DataW H} {ps : List MemPlace} (hu : P.underlying t = some (.struct fs)) (ht : tyCells P n t = some ts) {base : Nat} (hval : Value.okWide P W .any base t v) (h : DataW.Trod enc P W 0 sp held t v d ps)
    (hw : Small64 (d.weights P t)) : ∃ ys, fitVs ts ys ∧ ∀ σ, RepD σ (fun _ => False) W v (DA (ys.map .v)) := by
  obtain ⟨cs, rfl, _⟩ := Go.WideShapes.okWide_struct hu hval
  obtain ⟨fuel, hf⟩ := h
  obtain ⟨ys, h1, h2⟩ := tyCells_reads n t ts ht fuel _ _ hf hw
  refine ⟨ys, h2, fun σ => ⟨cs.toList, by simp, by simpa [Value.cells] using h1.1, fun j x hx => ?_⟩⟩
  rw [List.getElem?_map, Option.map_eq_some_iff] at hx
  obtain ⟨y, hy, rfl⟩ := hx
  obtain ⟨u, k1, k2⟩ := h1.2 j y hy
  exact ⟨u, by simpa [Value.cells] using k1, k2⟩

theorem arg_book {n : Nat} {t : TypeId} {fs : Array Field} {v : Value} {d : DataW H} {ps : List MemPlace} (hu : P.underlying t = some (.struct fs)) (ht : tyCells P n t = some tyBook) {base : Nat} (hval : Value.okWide P W .any base t v) (h : DataW.Trod enc P W 0 sp held t v d ps)
    (hw : Small64 (d.weights P t)) : ∃ b, Fits b ∧ ∀ σ, RepD σ (fun _ => False) W v (dBook b) := by
  obtain ⟨ys, h1, h2⟩ := arg_struct hu ht hval h hw
  obtain ⟨b, rfl, h3⟩ := dec_book ys h1
  exact ⟨b, h3, h2⟩

theorem weights_at {ts : List TypeId} {ds : List (DataW H)} (h : (DataW.weightsEach P ts ds).all (· ≤ reachBytes) = true) {j : Nat} {t : TypeId} {d : DataW H} (ht : ts[j]? = some t) (hd : ds[j]? = some d) : Small64 (d.weights P t) :=
  List.all_eq_true.2 fun n hn => List.all_eq_true.1 h n (DataW.weights_mem_each ht hd n hn)

theorem RepDs.nil : RepDs (fun _ => none) (fun _ => False) W [] [] := ⟨rfl, fun i d h => by simp at h⟩
theorem RepDs.cons {v : Value} {vs : List Value} {d : D} {ds : List D} (h : RepD (fun _ => none) (fun _ => False) W v d) (k : RepDs (fun _ => none) (fun _ => False) W vs ds) : RepDs (fun _ => none) (fun _ => False) W (v :: vs) (d :: ds) :=
  ⟨by simp [k.1], fun i x hx => by
    cases i with
    | zero => simp at hx; subst hx; exact ⟨v, rfl, h⟩
    | succ i => simpa using k.2 i x (by simpa using hx)⟩
theorem rep_int (n : Int) : RepD (fun _ => none) (fun _ => False) W (.int .i64 n) (DV (vInt n)) := .int _ _

/-- A law's contract, at the model. -/
theorem law_calls {f : Nat} {ds : List D} (h : AFun P f ds [] fun d _ => d = DV (.bool true)) {args : Array Value} (hr : RepDs (fun _ => none) (fun _ => False) W args.toList ds) :
    Calls P f args W fun e w' => e = .returned (.bool true) ∧ Go.RowKit.Below W.heap.size W w' := by
  have no0 : ∀ b, ¬ Own (fun _ => none) [] b := fun b ⟨id, cs, N, h1, _⟩ => by simp at h1
  have hm : MemOk (fun _ => False) (fun _ => none) [] W := ⟨fun id cs hid => by simp at hid, fun id id' b N N' cs cs' h1 => by simp at h1, fun b hb => hb.elim, fun _ _ => rfl⟩
  have g : Chg (fun _ => none) (fun _ => False) W (fun _ => none) (Lv (fun _ => False) (fun _ => none) []) W := ⟨fun id p hp => (by cases hp), Nat.le_refl _, fun b _ _ => ⟨fun hL => hL.elim (fun h => h) (no0 b), rfl⟩⟩
  have hr' : RepDs (fun _ => none) (Lv (fun _ => False) (fun _ => none) []) W args.toList ds := ⟨hr.1, fun i d hd => let ⟨u, h1, h2⟩ := hr.2 i d hd; ⟨u, h1, h2.mono g⟩⟩
  have := h (fun _ => False) (fun _ => none) W args.toList hm hr'
  refine Calls.mono (by simpa using this) ?_
  rintro e w' ⟨v, d, m', σ', rfl, rfl, hrep, _, tr, _⟩
  have hv : v = .bool true := repD_bool hrep
  subst hv
  exact ⟨rfl, tr.os, tr.tape, tr.output, tr.size, fun k hk => tr.keep k hk (no0 k)⟩

end
end Go.Proofs.YtmfmiobehjgeiaaGreat.Ab

namespace Go.Proofs.YtmfmiobehjgeiaaGreat.Ab
open Go

theorem fzCs_at {m : List Blk} : ∀ {cs : List C} {ys : List V}, FzCs m cs ys → ∀ (j : Nat) (x : C) (y : V), cs[j]? = some x → ys[j]? = some y → Fz m x y
  | [], [], _, j, x, y, hx, _ => by simp at hx
  | a :: r, b :: s, h, 0, x, y, hx, hy => by simp at hx hy; subst hx; subst hy; exact h.1
  | a :: r, b :: s, h, j + 1, x, y, hx, hy => fzCs_at h.2 j x y (by simpa using hx) (by simpa using hy)
  | [], _ :: _, h, _, _, _, _, _ => h.elim
  | _ :: _, [], h, _, _, _, _, _ => h.elim
theorem FzCs.append {m : List Blk} : ∀ {a : List C} {b : List V} {c : List C} {d : List V}, FzCs m a b → FzCs m c d → FzCs m (a ++ c) (b ++ d)
  | [], [], _, _, _, k => k
  | _ :: _, _ :: _, _, _, h, k => ⟨h.1, FzCs.append h.2 k⟩
  | [], _ :: _, _, _, h, _ => h.elim
  | _ :: _, [], _, _, h, _ => h.elim

theorem Fz.of_cs {m : List Blk} {sz id n : Nat} {cs : List C} {es : List (List V)} (hm : m[id]? = some (.cells cs)) (hn : es.length = n) (hsz : ∀ c ∈ es, c.length = sz) (hpos : 0 < sz) (h : FzCs m cs es.flatten) : Fz m (.sl sz id 0 n) (.ro sz es) := by
  have hl := (fzCs_get h).1
  have hfl : es.flatten.length = n * sz := by
    subst hn
    rw [flatten_length es fun i c hi => hsz c (List.mem_of_getElem? hi)]
  exact .sl sz id 0 n cs es (rdm_all hm (by rw [hl, hfl])) hn hsz hpos hl (fzCs_at h)

def eEnd (e : List Int × List Int) : List V := [vInts e.1, vInts e.2]
def vEnds (L : List (List Int × List Int)) : V := .ro 2 (L.map eEnd)

theorem Endm.fz {m : List Blk} {o : Nat} {es : List En} (h : Endm m o es) : Fz m (.sl 2 o 0 es.length) (vEnds (es.map fun e => (e.list, e.ranks))) := by
  refine Fz.of_cs h.outer (by simp) (fun c hc => ?_) (by omega) ?_
  · obtain ⟨e, _, rfl⟩ := List.mem_map.1 hc; rfl
  · have h1 := h.list
    have h2 := h.ranks
    clear h
    induction es with
    | nil => exact trivial
    | cons e r ih =>
      have := ih (fun x hx => h1 x (List.mem_cons_of_mem _ hx)) (fun x hx => h2 x (List.mem_cons_of_mem _ hx))
      rw [cEns, List.flatMap_cons, List.map_cons, List.map_cons, List.flatten_cons]
      refine FzCs.append ⟨Fz.cOf eInt 1 (fun _ => rfl) (by omega) (h1 e (List.mem_cons_self ..)) rfl, Fz.cOf eInt 1 (fun _ => rfl) (by omega) (h2 e (List.mem_cons_self ..)) rfl, trivial⟩ this

theorem implEndingsD (b : Book) (hf : Fits b) (hs : Small b) (team : Int) : AFunD Tryz.prog F.impl_endings [dBook b, DV (vInt team)] (DV (vEnds (endsM b team))) :=
  (implEndings b hf hs team).toD (D.pure_v _) fun d m ⟨o, es, h1, h2, h3, _⟩ => by
    subst h1
    rw [← h3]
    exact FzD.c h2.fz

theorem endsM_len (b : Book) (team : Int) : (endsM b team).length = (ranksAt b team).length := by
  unfold endsM ranksAt; split <;> simp

theorem endsM_rank (b : Book) (team : Int) (i : Nat) (hi : i < (endsM b team).length) (hi' : i < (ranksAt b team).length) :
    ∃ h : team.toNat < (endsM b team)[i].2.length, 0 ≤ team ∧ (endsM b team)[i].2[team.toNat] = (ranksAt b team)[i] ∧ (endsM b team)[i].2.length = b.field.length := by
  by_cases h : short b = true ∧ inB team 0 (b.field.length - 1) = true
  · have e1 : endsM b team = (List.range (countM b)).map fun i => (outAt (openG b.games).length i, ranksM (playedM b (outAt (openG b.games).length i))) := if_pos h
    have e2 : ranksAt b team = (List.range (countM b)).map fun i => rankOfM (playedM b (outAt (openG b.games).length i)) team := if_pos h
    have ht := inB_iff.1 h.2
    have g1 : (endsM b team)[i].2 = ranksM (playedM b (outAt (openG b.games).length i)) := by simp [e1]
    have g2 : (ranksAt b team)[i] = rankOfM (playedM b (outAt (openG b.games).length i)) team := by simp [e2]
    have hl : (ranksM (playedM b (outAt (openG b.games).length i))).length = b.field.length := ranksM_len _
    refine ⟨by rw [g1, hl]; omega, ht.1, ?_, by rw [g1, hl]⟩
    rw [g2, rankOfM, if_pos (playedM_ok (short_ok h.1).1)]
    simp only [g1, ranksM, List.getElem_map, upTo_get]
    congr 1; omega
  · have e1 : endsM b team = [] := if_neg h
    rw [e1] at hi; simp at hi

theorem ranksAt_len (b : Book) (team : Int) : (ranksAt b team).length ≤ 243 := by
  unfold ranksAt; split
  · have := countM_le b; simpa using this
  · simp

end Go.Proofs.YtmfmiobehjgeiaaGreat.Ab

namespace Go.Proofs.YtmfmiobehjgeiaaGreat.Ab
open Go

def dEnd (e : List Int × List Int) : D := DA ((eEnd e).map .v)
theorem eEnd_len (e : List Int × List Int) : (eEnd e).length = 2 := rfl
theorem eEnd_take (e : List Int × List Int) : (eEnd e).take 2 = eEnd e := rfl
attribute [go_sem] eEnd_len eEnd_take

theorem indexFuncEnd {mem : List Blk} {g : Nat} {caps : List (Nat × Nat)} {p : List Int × List Int → Bool} {l : List (List Int × List Int)} (hl : l.length < 4611686018427387904) (hf : isFn Tryz.prog g = true)
    (hc : ∀ x ∈ l, AFun Tryz.prog g (dEnd x :: caps.map fun p => DC (.ptr p.1 p.2)) mem fun d m => d = DV (.bool (p x)) ∧ m = mem) :
    AFun Tryz.prog F.slices_IndexFunc_ending [DV (vEnds l), DC (.fn g caps)] mem fun d m => d = DV (vInt (firstI (fun i => (l[i]?).any p) l.length)) ∧ m = mem := by
  refine AFun.intro k_slices_IndexFunc_ending (by simp) ?_
  unfold c_slices_IndexFunc_ending
  simp only [argE, Nat.reduceAdd]
  simp only [vEnds]
  simp -implicitDefEqProofs only [go_sem, ↓reduceIte, Nat.reduceEqDiff, Nat.reduceAdd, Nat.reduceLeDiff]
  refine loop_st (S := Nat) (fun i => [(0, DV (vEnds l)), (1, DC (.fn g caps)), (7, DV (vInt l.length)), (8, DV (vInt i))]) (fun _ => mem) (fun i => l.length - i) (fun i => i ≤ l.length ∧ ((List.range i).any fun i => (l[i]?).any p) = false) 0 (Nat.le_refl _)
    ⟨rfl, rfl, rfl, rfl, trivial⟩ rfl ⟨Nat.zero_le _, rfl⟩ ?_
  rintro i ⟨hi, hp⟩
  simp -implicitDefEqProofs only [go_sem, ↓reduceIte, Nat.reduceEqDiff, Nat.reduceAdd, Nat.reduceLeDiff, vEnds, vInt]
  refine condA_dec (fun h => ?_) (fun h => ?_)
  · have hlt : i < l.length := by omega
    simp -implicitDefEqProofs only [go_sem, ↓reduceIte, Nat.reduceEqDiff, Nat.reduceAdd, Nat.reduceLeDiff, List.getElem?_eq_getElem hlt]
    refine ⟨hf, (AFunG.of (hc l[i] (List.getElem_mem hlt))).mono ?_⟩
    rintro _ _ ⟨rfl, rfl⟩
    cases h1 : p l[i]
    · simp -implicitDefEqProofs only [go_sem, ↓reduceIte, Nat.reduceEqDiff, Nat.reduceAdd, Nat.reduceLeDiff, w64s (show i < 4611686018427387904 by omega)]
      exact next_of (i + 1) (by omega) ⟨by omega, by rw [any_range_succ, hp, List.getElem?_eq_getElem hlt, Option.any_some, h1]; rfl⟩ (Nat.le_refl _) ⟨rfl, rfl, rfl, rfl, trivial⟩ rfl
    · simp -implicitDefEqProofs only [go_sem, ↓reduceIte, Nat.reduceEqDiff, Nat.reduceAdd, Nat.reduceLeDiff]
      exact finK_refl (Nat.le_refl _) ⟨by rw [firstI_some hlt (by rw [List.getElem?_eq_getElem hlt, Option.any_some, h1]) hp], rfl⟩
  · simp -implicitDefEqProofs only [go_sem, ↓reduceIte, Nat.reduceEqDiff, Nat.reduceAdd, Nat.reduceLeDiff]
    have : i = l.length := by omega
    subst this
    exact finK_refl (Nat.le_refl _) ⟨by rw [firstI_none hp], rfl⟩

theorem containsFuncEnd {mem : List Blk} {g : Nat} {caps : List (Nat × Nat)} {p : List Int × List Int → Bool} {l : List (List Int × List Int)} (hl : l.length < 4611686018427387904) (hf : isFn Tryz.prog g = true)
    (hc : ∀ x ∈ l, AFun Tryz.prog g (dEnd x :: caps.map fun p => DC (.ptr p.1 p.2)) mem fun d m => d = DV (.bool (p x)) ∧ m = mem) :
    AFun Tryz.prog F.slices_ContainsFunc_ending [DV (vEnds l), DC (.fn g caps)] mem fun d m => d = DV (.bool ((List.range l.length).any fun i => (l[i]?).any p)) ∧ m = mem := by
  refine AFun.intro k_slices_ContainsFunc_ending (by simp) ?_
  unfold c_slices_ContainsFunc_ending
  simp only [argE, Nat.reduceAdd]
  simp -implicitDefEqProofs only [go_sem, ↓reduceIte, Nat.reduceEqDiff, Nat.reduceAdd, Nat.reduceLeDiff]
  refine (AFunG.of (indexFuncEnd hl hf hc)).mono ?_
  rintro _ _ ⟨rfl, rfl⟩
  simp -implicitDefEqProofs only [go_sem, ↓reduceIte, Nat.reduceEqDiff, Nat.reduceAdd, Nat.reduceLeDiff]
  exact finK_refl (Nat.le_refl _) ⟨by rw [firstI_ge], rfl⟩


def mustM (b : Book) (team place : Int) : Bool := decide (0 < (ranksAt b team).length) && !((List.range (ranksAt b team).length).any fun i => ((ranksAt b team)[i]?).any fun r => decide (place < r))

theorem specMustFinish (b : Book) (hf : Fits b) (hs : Small b) (team place : Int) : AFunD Tryz.prog F.spec_MustFinish [dBook b, DV (vInt team), DV (vInt place)] (DV (.bool (mustM b team place))) := by
  have hrl := ranksAt_len b team
  refine AFunD.intro k_spec_MustFinish (by simp) ?pure ?_
  case pure => first | exact D.pure_v _ | exact D.pure_vs _
  unfold c_spec_MustFinish
  simp only [argE, Nat.reduceAdd]
  simp only [dBook, eBook_eq]
  simp -implicitDefEqProofs only [go_sem, ↓reduceIte, Nat.reduceEqDiff, Nat.reduceAdd, Nat.reduceLeDiff]
  refine (specL16Ranks b hf hs team).callp (.vs (eBook b) (.v _ .nil)) ?_
  rw [mustM]
  generalize ranksAt b team = l at *
  simp -implicitDefEqProofs only [go_sem, ↓reduceIte, Nat.reduceEqDiff, Nat.reduceAdd, Nat.reduceLeDiff, vInts]
  refine loop_st (S := Nat) (fun i => [(2, DV (vInt place)), (7, DV (vInts l)), (13, DV (vInts l)), (14, DV (vInt l.length)), (15, DV (vInt i))]) (fun i => [.cells ((eBook b).map .v)]) (fun i => l.length - i) (fun i => i ≤ l.length ∧ ((List.range i).any fun i => (l[i]?).any fun r => decide (place < r)) = false) 0 (Nat.zero_le _)
    ⟨rfl, rfl, rfl, rfl, rfl, trivial⟩ rfl ⟨Nat.zero_le _, rfl⟩ ?_
  rintro i ⟨hi, hno⟩
  simp -implicitDefEqProofs only [go_sem, ↓reduceIte, Nat.reduceEqDiff, Nat.reduceAdd, Nat.reduceLeDiff, vInts, vInt]
  refine condA_dec (fun h => ?_) (fun h => ?_)
  · have hlt : i < l.length := by omega
    simp -implicitDefEqProofs only [go_sem, ↓reduceIte, Nat.reduceEqDiff, Nat.reduceAdd, Nat.reduceLeDiff, List.getElem?_eq_getElem hlt, gt_iff_lt]
    by_cases hr : place < l[i]
    · simp -implicitDefEqProofs only [go_sem, ↓reduceIte, Nat.reduceEqDiff, Nat.reduceAdd, Nat.reduceLeDiff, hr]
      refine finK_v ⟨?_, rfl⟩
      rw [any_range_true hlt (by rw [List.getElem?_eq_getElem hlt]; simpa using hr)]; simp
    · simp -implicitDefEqProofs only [go_sem, ↓reduceIte, Nat.reduceEqDiff, Nat.reduceAdd, Nat.reduceLeDiff, hr, w64s (show i < 4611686018427387904 by omega)]
      exact next_of (i + 1) (by omega) ⟨by omega, by rw [any_range_succ, hno, List.getElem?_eq_getElem hlt]; simpa using hr⟩ (Nat.zero_le _) ⟨rfl, rfl, rfl, rfl, rfl, trivial⟩ rfl
  · simp -implicitDefEqProofs only [go_sem, ↓reduceIte, Nat.reduceEqDiff, Nat.reduceAdd, Nat.reduceLeDiff, gt_iff_lt]
    have hin : i = l.length := by omega
    subst hin
    refine finK_v ⟨?_, rfl⟩
    rw [hno]
    by_cases h0 : 0 < l.length
    · rw [decide_eq_true h0, decide_eq_true (by omega)]; rfl
    · rw [decide_eq_false h0, decide_eq_false (by omega)]; rfl

theorem mustC1 (team place : Int) (e : List Int × List Int) (r : Int) (h0 : 0 ≤ team) (hl : team.toNat < e.2.length) (hr : e.2[team.toNat] = r) :
    AFun Tryz.prog F.impl_MustFinish_c1 [dEnd e, DC (.ptr 0 0), DC (.ptr 1 0)] (mem2 team place) fun d m => d = DV (.bool (decide (place < r))) ∧ m = mem2 team place := by
  refine AFun.intro k_impl_MustFinish_c1 (by simp) ?_
  unfold c_impl_MustFinish_c1
  simp only [argE, Nat.reduceAdd]
  have hlt : team < (e.2.length : Int) := by omega
  simp only [dEnd, eEnd, mem2]
  simp -implicitDefEqProofs only [go_sem, ↓reduceIte, Nat.reduceEqDiff, Nat.reduceAdd, Nat.reduceLeDiff, vInts, h0, hlt, List.getElem?_eq_getElem hl, hr, gt_iff_lt]
  exact finK_drop (mem := mem2 team place) (mem2_wf _ _) trivial ⟨rfl, rfl⟩
theorem isFn_mustC1 : isFn Tryz.prog F.impl_MustFinish_c1 = true := by kernel_rfl

theorem implMustFinish (b : Book) (hf : Fits b) (hs : Small b) (team place : Int) : AFunD Tryz.prog F.impl_MustFinish [dBook b, DV (vInt team), DV (vInt place)] (DV (.bool (mustM b team place))) := by
  have hrl := ranksAt_len b team
  have hel := endsM_len b team
  have hrank := endsM_rank b team
  refine AFunD.intro k_impl_MustFinish (by simp) ?pure ?_
  case pure => first | exact D.pure_v _ | exact D.pure_vs _
  unfold c_impl_MustFinish
  simp only [argE, Nat.reduceAdd]
  simp only [dBook, eBook_eq]
  simp -implicitDefEqProofs only [go_sem, ↓reduceIte, Nat.reduceEqDiff, Nat.reduceAdd, Nat.reduceLeDiff]
  refine (implEndingsD b hf hs team).callp (.vs (eBook b) (.v _ .nil)) ?_
  rw [mustM]
  generalize ranksAt b team = l at *
  generalize endsM b team = L at *
  simp -implicitDefEqProofs only [go_sem, ↓reduceIte, Nat.reduceEqDiff, Nat.reduceAdd, Nat.reduceLeDiff, vEnds, gt_iff_lt]
  by_cases h0 : 0 < l.length
  · have h0' : (0 : Int) < L.length := by omega
    simp -implicitDefEqProofs only [go_sem, ↓reduceIte, Nat.reduceEqDiff, Nat.reduceAdd, Nat.reduceLeDiff, h0']
    have hidx : ∀ e ∈ L, ∃ r, 0 ≤ team ∧ ∃ h : team.toNat < e.2.length, e.2[team.toNat] = r := fun e he => by
      obtain ⟨i, hi, rfl⟩ := List.getElem_of_mem he
      obtain ⟨h1, h2, h3, _⟩ := hrank i hi (by omega)
      exact ⟨_, h2, h1, h3⟩
    refine handKeep [1, 2] (containsFuncEnd (l := L) (p := fun e => decide (place < e.2.getD team.toNat 0)) (by omega) isFn_mustC1 (caps := [(0, 0), (1, 0)]) (mem := mem2 team place) fun e he => ?_) (by simp) rfl (fun j b' hj => ?_)
      ⟨VwM.ren (.inr rfl) trivial, VwM.ren (d0 := DC (.fn F.impl_MustFinish_c1 [(0, 0), (1, 0)])) (.inr rfl) (fun p hp => by simp at hp; rcases hp with rfl | rfl <;> decide), trivial⟩ ?_
    · obtain ⟨r, k0, k1, k2⟩ := hidx e he
      refine mustC1 team place e _ k0 k1 ?_
      simp [k1]
    · match j, hj with
      | 0, hj => cases hj; exact ⟨⟨[.int .i64 team], rfl⟩, rfl⟩
      | 1, hj => cases hj; exact ⟨⟨[.int .i64 place], rfl⟩, rfl⟩
      | j + 2, hj => simp [mem2] at hj
    simp -implicitDefEqProofs only [go_sem, ↓reduceIte, Nat.reduceEqDiff, Nat.reduceAdd, Nat.reduceLeDiff]
    refine finK_v ⟨?_, rfl⟩
    rw [decide_eq_true h0, Bool.true_and, hel]
    congr 3
    refine any_congr fun i hi => ?_
    obtain ⟨h1, _, h3, _⟩ := hrank i (by omega) hi
    rw [List.getElem?_eq_getElem (by omega), List.getElem?_eq_getElem hi, Option.any_some, Option.any_some, ← h3, getD_of h1]
  · have h0' : ¬ (0 : Int) < L.length := by omega
    simp -implicitDefEqProofs only [go_sem, ↓reduceIte, Nat.reduceEqDiff, Nat.reduceAdd, Nat.reduceLeDiff, h0']
    exact finK_v ⟨by rw [decide_eq_false h0]; rfl, rfl⟩

end Go.Proofs.YtmfmiobehjgeiaaGreat.Ab

namespace Go.Proofs.YtmfmiobehjgeiaaGreat.Ab
open Go

theorem Small.of {b : Book} (h : szB b ≤ 1048576) : Small b := by
  unfold szB szT at h
  exact ⟨by omega, by omega, by omega, by omega, by omega⟩

theorem HasBook.of {m : List Blk} {i : Nat} {b : Book} (h0 : m[i]? = some (.cells (cOf eTeam b.field))) (h1 : m[i + 1]? = some (.cells (cOf eInt b.rules.ladder))) (h2 : m[i + 2]? = some (.cells (cOf eGame b.games))) (h3 : m[i + 3]? = some (.cells (cOf eInt b.fair))) (h4 : m[i + 4]? = some (.cells (cOf eInt b.taken))) : HasBook m i b := fun j k h => by
  match j, h with
  | 0, h => cases h; exact h0
  | 1, h => cases h; exact h1
  | 2, h => cases h; exact h2
  | 3, h => cases h; exact h3
  | 4, h => cases h; exact h4
  | j + 5, h => simp [memBook] at h

theorem lawMustFinish (b : Book) (hf : Fits b) (team place : Int) : AFun Tryz.prog F.laws_FnExactMustFinish [dBook b, DV (vInt team), DV (vInt place)] [] fun d _ => d = DV (.bool true) := by
  refine AFun.intro k_laws_FnExactMustFinish (by simp) ?_
  unfold c_laws_FnExactMustFinish
  simp only [argE, Nat.reduceAdd]
  simp only [dBook, eBook_eq]
  simp -implicitDefEqProofs only [go_sem, ↓reduceIte, Nat.reduceEqDiff, Nat.reduceAdd, Nat.reduceLeDiff]
  refine (szBook b 1048576 (by omega) (by omega) hf).callp (.vs (eBook b) (.v _ .nil)) ?_
  by_cases hz : (1048576 : Int) < szB b
  · rw [if_pos hz]
    simp -implicitDefEqProofs only [go_sem, ↓reduceIte, Nat.reduceEqDiff, Nat.reduceAdd, Nat.reduceLeDiff, Int.reduceLT]
    exact finK_v rfl
  rw [if_neg hz]
  have hs : Small b := Small.of (by omega)
  have hz' : ¬ (1048576 - (szB b : Int) < 0) := by omega
  simp -implicitDefEqProofs only [go_sem, ↓reduceIte, Nat.reduceEqDiff, Nat.reduceAdd, Nat.reduceLeDiff, hz']
  refine (toBook b hs).callp (.vs (eBook b) .nil) ?_
  rintro _ _ ⟨rfl, rfl⟩
  rw [shD_book, shB_book]
  simp -implicitDefEqProofs only [go_sem, ↓reduceIte, Nat.reduceEqDiff, Nat.reduceAdd, Nat.reduceLeDiff]
  refine (specMustFinish b hf hs team place).call (br := true) ⟨Vw.book (HasBook.tail [_] [] _), Vw.v _, Vw.v _, trivial⟩ (fun _ => rfl) ?_
  simp -implicitDefEqProofs only [go_sem, ↓reduceIte, Nat.reduceEqDiff, Nat.reduceAdd, Nat.reduceLeDiff, memBook, dBookOwn]
  refine (toBook b hs).callp (.vs (eBook b) .nil) ?_
  rintro _ _ ⟨rfl, rfl⟩
  rw [shD_book, shB_book]
  simp -implicitDefEqProofs only [go_sem, ↓reduceIte, Nat.reduceEqDiff, Nat.reduceAdd, Nat.reduceLeDiff, memBook, dBookOwn]
  refine (implMustFinish b hf hs team place).call (br := true) ⟨Vw.book (i := 6) (HasBook.of rfl rfl rfl rfl rfl), Vw.v _, Vw.v _, trivial⟩ (fun _ => rfl) ?_
  simp -implicitDefEqProofs only [go_sem, ↓reduceIte, Nat.reduceEqDiff, Nat.reduceAdd, Nat.reduceLeDiff, bne_self_eq_false, beq_self_eq_true]
  refine (toBook b hs).callp (.vs (eBook b) .nil) ?_
  rintro _ _ ⟨rfl, rfl⟩
  rw [shD_book, shB_book]
  simp -implicitDefEqProofs only [go_sem, ↓reduceIte, Nat.reduceEqDiff, Nat.reduceAdd, Nat.reduceLeDiff, memBook, dBookOwn]
  refine (eqBook b b hf.field hf.ladder hf.games hf.fair hf.taken).call (br := true) ⟨Vw.book (i := 6) (HasBook.of rfl rfl rfl rfl rfl), Vw.book (i := 12) (HasBook.of rfl rfl rfl rfl rfl), trivial⟩ (fun _ => rfl) ?_
  simp -implicitDefEqProofs only [go_sem, ↓reduceIte, Nat.reduceEqDiff, Nat.reduceAdd, Nat.reduceLeDiff, decide_true]
  exact finK_v rfl

end Go.Proofs.YtmfmiobehjgeiaaGreat.Ab

namespace Go.Proofs.YtmfmiobehjgeiaaGreat.Ab
open Go

/-- How many of the first i are so. -/
def cntUp (p : Int → Bool) (l : List Int) : Nat → Nat
  | 0 => 0
  | i + 1 => cntUp p l i + if (l[i]?).any p = true then 1 else 0
theorem cntUp_le (p : Int → Bool) (l : List Int) : ∀ i, cntUp p l i ≤ i
  | 0 => Nat.le_refl _
  | i + 1 => by have := cntUp_le p l i; rw [cntUp]; split <;> omega

def waysM (b : Book) (team rank : Int) : Nat := cntUp (fun r => decide (r = rank)) (ranksAt b team) (ranksAt b team).length
def goodM (b : Book) (team place : Int) : Nat := cntUp (fun r => decide (r ≤ place)) (ranksAt b team) (ranksAt b team).length
def decidedM (b : Book) (team place : Int) : Bool := decide (0 < (ranksAt b team).length) && (decide (goodM b team place = 0) || decide (goodM b team place = (ranksAt b team).length))

theorem specWays (b : Book) (hf : Fits b) (hs : Small b) (team place : Int) : AFunD Tryz.prog F.spec_WaysToRank [dBook b, DV (vInt team), DV (vInt place)] (DV (vInt (waysM b team place))) := by
  have hrl := ranksAt_len b team
  refine AFunD.intro k_spec_WaysToRank (by simp) ?pure ?_
  case pure => first | exact D.pure_v _ | exact D.pure_vs _
  unfold c_spec_WaysToRank
  simp only [argE, Nat.reduceAdd]
  simp only [dBook, eBook_eq]
  simp -implicitDefEqProofs only [go_sem, ↓reduceIte, Nat.reduceEqDiff, Nat.reduceAdd, Nat.reduceLeDiff]
  refine (specL16Ranks b hf hs team).callp (.vs (eBook b) (.v _ .nil)) ?_
  rw [waysM]
  generalize ranksAt b team = l at *
  simp -implicitDefEqProofs only [go_sem, ↓reduceIte, Nat.reduceEqDiff, Nat.reduceAdd, Nat.reduceLeDiff, vInts]
  refine loop_st (S := Nat) (fun i => [(2, DV (vInt place)), (7, DV (vInt (cntUp (fun r => decide (r = place)) l i))), (12, DV (vInts l)), (13, DV (vInt l.length)), (14, DV (vInt i))]) (fun i => [.cells ((eBook b).map .v)]) (fun i => l.length - i) (fun i => i ≤ l.length) 0 (Nat.zero_le _)
    ⟨rfl, rfl, rfl, rfl, rfl, trivial⟩ rfl (Nat.zero_le _) ?_
  intro i hi
  have hcl := cntUp_le (fun r => decide (r = place)) l i
  simp -implicitDefEqProofs only [go_sem, ↓reduceIte, Nat.reduceEqDiff, Nat.reduceAdd, Nat.reduceLeDiff, vInts, vInt]
  refine condA_dec (fun h => ?_) (fun h => ?_)
  · have hlt : i < l.length := by omega
    by_cases hr : l[i] = place
    · have e1 : cntUp (fun r => decide (r = place)) l (i + 1) = cntUp (fun r => decide (r = place)) l i + 1 := by rw [cntUp, if_pos (by rw [List.getElem?_eq_getElem hlt]; simpa using hr)]
      simp -implicitDefEqProofs only [go_sem, ↓reduceIte, Nat.reduceEqDiff, Nat.reduceAdd, Nat.reduceLeDiff, List.getElem?_eq_getElem hlt, hr, w64s (show i < 4611686018427387904 by omega), w64s (show cntUp (fun r => decide (r = place)) l i < 4611686018427387904 by omega)]
      exact next_of (i + 1) (by omega) (by omega) (Nat.zero_le _) ⟨rfl, (by rw [e1]; rfl), rfl, rfl, rfl, trivial⟩ rfl
    · have e1 : cntUp (fun r => decide (r = place)) l (i + 1) = cntUp (fun r => decide (r = place)) l i := by rw [cntUp, if_neg (by rw [List.getElem?_eq_getElem hlt]; simpa using hr)]; rfl
      simp -implicitDefEqProofs only [go_sem, ↓reduceIte, Nat.reduceEqDiff, Nat.reduceAdd, Nat.reduceLeDiff, List.getElem?_eq_getElem hlt, hr, w64s (show i < 4611686018427387904 by omega)]
      exact next_of (i + 1) (by omega) (by omega) (Nat.zero_le _) ⟨rfl, (by rw [e1]; rfl), rfl, rfl, rfl, trivial⟩ rfl
  · have hin : i = l.length := by omega
    subst hin
    simp -implicitDefEqProofs only [go_sem, ↓reduceIte, Nat.reduceEqDiff, Nat.reduceAdd, Nat.reduceLeDiff]
    exact finK_v ⟨by rfl, rfl⟩

theorem implWays (b : Book) (hf : Fits b) (hs : Small b) (team place : Int) : AFunD Tryz.prog F.impl_WaysToRank [dBook b, DV (vInt team), DV (vInt place)] (DV (vInt (waysM b team place))) := by
  have hrl := ranksAt_len b team
  have hel := endsM_len b team
  have hrank := endsM_rank b team
  refine AFunD.intro k_impl_WaysToRank (by simp) ?pure ?_
  case pure => first | exact D.pure_v _ | exact D.pure_vs _
  unfold c_impl_WaysToRank
  simp only [argE, Nat.reduceAdd]
  simp only [dBook, eBook_eq]
  simp -implicitDefEqProofs only [go_sem, ↓reduceIte, Nat.reduceEqDiff, Nat.reduceAdd, Nat.reduceLeDiff]
  refine (implEndingsD b hf hs team).callp (.vs (eBook b) (.v _ .nil)) ?_
  rw [waysM]
  generalize ranksAt b team = l at *
  generalize endsM b team = L at *
  simp -implicitDefEqProofs only [go_sem, ↓reduceIte, Nat.reduceEqDiff, Nat.reduceAdd, Nat.reduceLeDiff, vEnds]
  refine loop_st (S := Nat) (fun i => [(1, DV (vInt team)), (2, DV (vInt place)), (7, DV (vInt (cntUp (fun r => decide (r = place)) l i))), (12, DV (vEnds L)), (13, DV (vInt L.length)), (14, DV (vInt i))]) (fun i => [.cells ((eBook b).map .v)]) (fun i => L.length - i) (fun i => i ≤ L.length) 0 (Nat.zero_le _)
    ⟨rfl, rfl, rfl, rfl, rfl, rfl, trivial⟩ rfl (Nat.zero_le _) ?_
  intro i hi
  have hcl := cntUp_le (fun r => decide (r = place)) l i
  simp only [eBook_eq]
  simp -implicitDefEqProofs only [go_sem, ↓reduceIte, Nat.reduceEqDiff, Nat.reduceAdd, Nat.reduceLeDiff, vEnds, vInt]
  refine condA_dec (fun h => ?_) (fun h => ?_)
  · have hlt : i < l.length := by omega
    have hltL : i < L.length := by omega
    obtain ⟨k1, k2, k3, k4⟩ := hrank i hltL hlt
    have k5 : team < (L[i].2.length : Int) := by omega
    have hdrop : ∀ X : List Blk, X.length = 1 → True := fun _ _ => trivial
    by_cases hr : l[i] = place
    · have e1 : cntUp (fun r => decide (r = place)) l (i + 1) = cntUp (fun r => decide (r = place)) l i + 1 := by rw [cntUp, if_pos (by rw [List.getElem?_eq_getElem hlt]; simpa using hr)]
      simp -implicitDefEqProofs only [go_sem, ↓reduceIte, Nat.reduceEqDiff, Nat.reduceAdd, Nat.reduceLeDiff, List.getElem?_eq_getElem hltL, eEnd, vInts, k2, k5, List.getElem?_eq_getElem k1, k3, hr, w64s (show i < 4611686018427387904 by omega), w64s (show cntUp (fun r => decide (r = place)) l i < 4611686018427387904 by omega)]
      exact next_drop (i + 1) _ (by omega) (by omega) (WfM.data fun x hx => by simp only [List.mem_cons, List.not_mem_nil, or_false] at hx; subst hx; exact ⟨eBook b, rfl⟩) (Nat.zero_le _) ⟨rfl, rfl, (by rw [e1]; rfl), rfl, rfl, rfl, trivial⟩ ⟨trivial, trivial, trivial, trivial, trivial, trivial, trivial⟩ rfl
    · have e1 : cntUp (fun r => decide (r = place)) l (i + 1) = cntUp (fun r => decide (r = place)) l i := by rw [cntUp, if_neg (by rw [List.getElem?_eq_getElem hlt]; simpa using hr)]; rfl
      simp -implicitDefEqProofs only [go_sem, ↓reduceIte, Nat.reduceEqDiff, Nat.reduceAdd, Nat.reduceLeDiff, List.getElem?_eq_getElem hltL, eEnd, vInts, k2, k5, List.getElem?_eq_getElem k1, k3, hr, w64s (show i < 4611686018427387904 by omega)]
      exact next_drop (i + 1) _ (by omega) (by omega) (WfM.data fun x hx => by simp only [List.mem_cons, List.not_mem_nil, or_false] at hx; subst hx; exact ⟨eBook b, rfl⟩) (Nat.zero_le _) ⟨rfl, rfl, (by rw [e1]; rfl), rfl, rfl, rfl, trivial⟩ ⟨trivial, trivial, trivial, trivial, trivial, trivial, trivial⟩ rfl
  · have hin : i = l.length := by omega
    subst hin
    simp -implicitDefEqProofs only [go_sem, ↓reduceIte, Nat.reduceEqDiff, Nat.reduceAdd, Nat.reduceLeDiff]
    exact finK_v ⟨by rfl, rfl⟩

theorem specDecided (b : Book) (hf : Fits b) (hs : Small b) (team place : Int) : AFunD Tryz.prog F.spec_IsDecided [dBook b, DV (vInt team), DV (vInt place)] (DV (.bool (decidedM b team place))) := by
  have hrl := ranksAt_len b team
  refine AFunD.intro k_spec_IsDecided (by simp) ?pure ?_
  case pure => first | exact D.pure_v _ | exact D.pure_vs _
  unfold c_spec_IsDecided
  simp only [argE, Nat.reduceAdd]
  simp only [dBook, eBook_eq]
  simp -implicitDefEqProofs only [go_sem, ↓reduceIte, Nat.reduceEqDiff, Nat.reduceAdd, Nat.reduceLeDiff]
  refine (specL16Ranks b hf hs team).callp (.vs (eBook b) (.v _ .nil)) ?_
  rw [decidedM, goodM]
  generalize ranksAt b team = l at *
  simp -implicitDefEqProofs only [go_sem, ↓reduceIte, Nat.reduceEqDiff, Nat.reduceAdd, Nat.reduceLeDiff, vInts]
  refine loop_st (S := Nat) (fun i => [(2, DV (vInt place)), (7, DV (vInts l)), (8, DV (vInt (cntUp (fun r => decide (r ≤ place)) l i))), (14, DV (vInts l)), (15, DV (vInt l.length)), (16, DV (vInt i))]) (fun i => [.cells ((eBook b).map .v)]) (fun i => l.length - i) (fun i => i ≤ l.length) 0 (Nat.zero_le _)
    ⟨rfl, rfl, rfl, rfl, rfl, rfl, trivial⟩ rfl (Nat.zero_le _) ?_
  intro i hi
  have hcl := cntUp_le (fun r => decide (r ≤ place)) l i
  simp -implicitDefEqProofs only [go_sem, ↓reduceIte, Nat.reduceEqDiff, Nat.reduceAdd, Nat.reduceLeDiff, vInts, vInt]
  refine condA_dec (fun h => ?_) (fun h => ?_)
  · have hlt : i < l.length := by omega
    by_cases hr : l[i] ≤ place
    · have e1 : cntUp (fun r => decide (r ≤ place)) l (i + 1) = cntUp (fun r => decide (r ≤ place)) l i + 1 := by rw [cntUp, if_pos (by rw [List.getElem?_eq_getElem hlt]; simpa using hr)]
      simp -implicitDefEqProofs only [go_sem, ↓reduceIte, Nat.reduceEqDiff, Nat.reduceAdd, Nat.reduceLeDiff, List.getElem?_eq_getElem hlt, hr, w64s (show i < 4611686018427387904 by omega), w64s (show cntUp (fun r => decide (r ≤ place)) l i < 4611686018427387904 by omega)]
      exact next_of (i + 1) (by omega) (by omega) (Nat.zero_le _) ⟨rfl, rfl, (by rw [e1]; rfl), rfl, rfl, rfl, trivial⟩ rfl
    · have e1 : cntUp (fun r => decide (r ≤ place)) l (i + 1) = cntUp (fun r => decide (r ≤ place)) l i := by rw [cntUp, if_neg (by rw [List.getElem?_eq_getElem hlt]; simpa using hr)]; rfl
      simp -implicitDefEqProofs only [go_sem, ↓reduceIte, Nat.reduceEqDiff, Nat.reduceAdd, Nat.reduceLeDiff, List.getElem?_eq_getElem hlt, hr, w64s (show i < 4611686018427387904 by omega)]
      exact next_of (i + 1) (by omega) (by omega) (Nat.zero_le _) ⟨rfl, rfl, (by rw [e1]; rfl), rfl, rfl, rfl, trivial⟩ rfl
  · have hin : i = l.length := by omega
    subst hin
    simp -implicitDefEqProofs only [go_sem, ↓reduceIte, Nat.reduceEqDiff, Nat.reduceAdd, Nat.reduceLeDiff, vInts, vEnds, gt_iff_lt]
    by_cases h0 : 0 < l.length
    · have h0' : (0 : Int) < l.length := by omega
      have h0'' : (0 : Int) < l.length := by omega
      by_cases hg : cntUp (fun r => decide (r ≤ place)) l l.length = 0
      · have hg' : ((cntUp (fun r => decide (r ≤ place)) l l.length : Nat) : Int) = 0 := by omega
        simp -implicitDefEqProofs only [go_sem, ↓reduceIte, Nat.reduceEqDiff, Nat.reduceAdd, Nat.reduceLeDiff, h0', h0'', hg']
        exact finK_v ⟨by rw [hg, decide_eq_true h0]; rfl, rfl⟩
      · have hg' : ¬ ((cntUp (fun r => decide (r ≤ place)) l l.length : Nat) : Int) = 0 := by omega
        simp -implicitDefEqProofs only [go_sem, ↓reduceIte, Nat.reduceEqDiff, Nat.reduceAdd, Nat.reduceLeDiff, h0', h0'', hg']
        refine finK_v ⟨?_, rfl⟩
        rw [decide_eq_true h0, decide_eq_false hg, Bool.true_and, Bool.false_or]
        by_cases he : cntUp (fun r => decide (r ≤ place)) l l.length = l.length
        · rw [decide_eq_true he, decide_eq_true (by omega)]
        · rw [decide_eq_false he, decide_eq_false (by omega)]
    · have h0' : ¬ (0 : Int) < l.length := by omega
      have h0'' : ¬ (0 : Int) < l.length := by omega
      simp -implicitDefEqProofs only [go_sem, ↓reduceIte, Nat.reduceEqDiff, Nat.reduceAdd, Nat.reduceLeDiff, h0', h0'']
      exact finK_v ⟨by rw [decide_eq_false h0]; rfl, rfl⟩

theorem implDecided (b : Book) (hf : Fits b) (hs : Small b) (team place : Int) : AFunD Tryz.prog F.impl_IsDecided [dBook b, DV (vInt team), DV (vInt place)] (DV (.bool (decidedM b team place))) := by
  have hrl := ranksAt_len b team
  have hel := endsM_len b team
  have hrank := endsM_rank b team
  refine AFunD.intro k_impl_IsDecided (by simp) ?pure ?_
  case pure => first | exact D.pure_v _ | exact D.pure_vs _
  unfold c_impl_IsDecided
  simp only [argE, Nat.reduceAdd]
  simp only [dBook, eBook_eq]
  simp -implicitDefEqProofs only [go_sem, ↓reduceIte, Nat.reduceEqDiff, Nat.reduceAdd, Nat.reduceLeDiff]
  refine (implEndingsD b hf hs team).callp (.vs (eBook b) (.v _ .nil)) ?_
  rw [decidedM, goodM]
  generalize ranksAt b team = l at *
  generalize endsM b team = L at *
  simp -implicitDefEqProofs only [go_sem, ↓reduceIte, Nat.reduceEqDiff, Nat.reduceAdd, Nat.reduceLeDiff, vEnds]
  refine loop_st (S := Nat) (fun i => [(1, DV (vInt team)), (2, DV (vInt place)), (7, DV (vEnds L)), (8, DV (vInt (cntUp (fun r => decide (r ≤ place)) l i))), (14, DV (vEnds L)), (15, DV (vInt L.length)), (16, DV (vInt i))]) (fun i => [.cells ((eBook b).map .v)]) (fun i => L.length - i) (fun i => i ≤ L.length) 0 (Nat.zero_le _)
    ⟨rfl, rfl, rfl, rfl, rfl, rfl, rfl, trivial⟩ rfl (Nat.zero_le _) ?_
  intro i hi
  have hcl := cntUp_le (fun r => decide (r ≤ place)) l i
  simp only [eBook_eq]
  simp -implicitDefEqProofs only [go_sem, ↓reduceIte, Nat.reduceEqDiff, Nat.reduceAdd, Nat.reduceLeDiff, vEnds, vInt]
  refine condA_dec (fun h => ?_) (fun h => ?_)
  · have hlt : i < l.length := by omega
    have hltL : i < L.length := by omega
    obtain ⟨k1, k2, k3, k4⟩ := hrank i hltL hlt
    have k5 : team < (L[i].2.length : Int) := by omega
    have hdrop : ∀ X : List Blk, X.length = 1 → True := fun _ _ => trivial
    by_cases hr : l[i] ≤ place
    · have e1 : cntUp (fun r => decide (r ≤ place)) l (i + 1) = cntUp (fun r => decide (r ≤ place)) l i + 1 := by rw [cntUp, if_pos (by rw [List.getElem?_eq_getElem hlt]; simpa using hr)]
      simp -implicitDefEqProofs only [go_sem, ↓reduceIte, Nat.reduceEqDiff, Nat.reduceAdd, Nat.reduceLeDiff, List.getElem?_eq_getElem hltL, eEnd, vInts, k2, k5, List.getElem?_eq_getElem k1, k3, hr, w64s (show i < 4611686018427387904 by omega), w64s (show cntUp (fun r => decide (r ≤ place)) l i < 4611686018427387904 by omega)]
      exact next_drop (i + 1) _ (by omega) (by omega) (WfM.data fun x hx => by simp only [List.mem_cons, List.not_mem_nil, or_false] at hx; subst hx; exact ⟨eBook b, rfl⟩) (Nat.zero_le _) ⟨rfl, rfl, rfl, (by rw [e1]; rfl), rfl, rfl, rfl, trivial⟩ ⟨trivial, trivial, trivial, trivial, trivial, trivial, trivial, trivial⟩ rfl
    · have e1 : cntUp (fun r => decide (r ≤ place)) l (i + 1) = cntUp (fun r => decide (r ≤ place)) l i := by rw [cntUp, if_neg (by rw [List.getElem?_eq_getElem hlt]; simpa using hr)]; rfl
      simp -implicitDefEqProofs only [go_sem, ↓reduceIte, Nat.reduceEqDiff, Nat.reduceAdd, Nat.reduceLeDiff, List.getElem?_eq_getElem hltL, eEnd, vInts, k2, k5, List.getElem?_eq_getElem k1, k3, hr, w64s (show i < 4611686018427387904 by omega)]
      exact next_drop (i + 1) _ (by omega) (by omega) (WfM.data fun x hx => by simp only [List.mem_cons, List.not_mem_nil, or_false] at hx; subst hx; exact ⟨eBook b, rfl⟩) (Nat.zero_le _) ⟨rfl, rfl, rfl, (by rw [e1]; rfl), rfl, rfl, rfl, trivial⟩ ⟨trivial, trivial, trivial, trivial, trivial, trivial, trivial, trivial⟩ rfl
  · have hin : i = l.length := by omega
    subst hin
    simp -implicitDefEqProofs only [go_sem, ↓reduceIte, Nat.reduceEqDiff, Nat.reduceAdd, Nat.reduceLeDiff, vInts, vEnds, gt_iff_lt]
    by_cases h0 : 0 < l.length
    · have h0' : (0 : Int) < l.length := by omega
      have h0'' : (0 : Int) < L.length := by omega
      by_cases hg : cntUp (fun r => decide (r ≤ place)) l l.length = 0
      · have hg' : ((cntUp (fun r => decide (r ≤ place)) l l.length : Nat) : Int) = 0 := by omega
        simp -implicitDefEqProofs only [go_sem, ↓reduceIte, Nat.reduceEqDiff, Nat.reduceAdd, Nat.reduceLeDiff, h0', h0'', hg']
        exact finK_v ⟨by rw [hg, decide_eq_true h0]; rfl, rfl⟩
      · have hg' : ¬ ((cntUp (fun r => decide (r ≤ place)) l l.length : Nat) : Int) = 0 := by omega
        simp -implicitDefEqProofs only [go_sem, ↓reduceIte, Nat.reduceEqDiff, Nat.reduceAdd, Nat.reduceLeDiff, h0', h0'', hg']
        refine finK_v ⟨?_, rfl⟩
        rw [decide_eq_true h0, decide_eq_false hg, Bool.true_and, Bool.false_or]
        by_cases he : cntUp (fun r => decide (r ≤ place)) l l.length = l.length
        · rw [decide_eq_true he, decide_eq_true (by omega)]
        · rw [decide_eq_false he, decide_eq_false (by omega)]
    · have h0' : ¬ (0 : Int) < l.length := by omega
      have h0'' : ¬ (0 : Int) < L.length := by omega
      simp -implicitDefEqProofs only [go_sem, ↓reduceIte, Nat.reduceEqDiff, Nat.reduceAdd, Nat.reduceLeDiff, h0', h0'']
      exact finK_v ⟨by rw [decide_eq_false h0]; rfl, rfl⟩

end Go.Proofs.YtmfmiobehjgeiaaGreat.Ab

namespace Go.Proofs.YtmfmiobehjgeiaaGreat.Ab
open Go

theorem lawWays (b : Book) (hf : Fits b) (team place : Int) : AFun Tryz.prog F.laws_FnExactWaysToRank [dBook b, DV (vInt team), DV (vInt place)] [] fun d _ => d = DV (.bool true) := by
  refine AFun.intro k_laws_FnExactWaysToRank (by simp) ?_
  unfold c_laws_FnExactWaysToRank
  simp only [argE, Nat.reduceAdd]
  simp only [dBook, eBook_eq]
  simp -implicitDefEqProofs only [go_sem, ↓reduceIte, Nat.reduceEqDiff, Nat.reduceAdd, Nat.reduceLeDiff]
  refine (szBook b 1048576 (by omega) (by omega) hf).callp (.vs (eBook b) (.v _ .nil)) ?_
  by_cases hz : (1048576 : Int) < szB b
  · rw [if_pos hz]
    simp -implicitDefEqProofs only [go_sem, ↓reduceIte, Nat.reduceEqDiff, Nat.reduceAdd, Nat.reduceLeDiff, Int.reduceLT]
    exact finK_v rfl
  rw [if_neg hz]
  have hs : Small b := Small.of (by omega)
  have hz' : ¬ (1048576 - (szB b : Int) < 0) := by omega
  simp -implicitDefEqProofs only [go_sem, ↓reduceIte, Nat.reduceEqDiff, Nat.reduceAdd, Nat.reduceLeDiff, hz']
  refine (toBook b hs).callp (.vs (eBook b) .nil) ?_
  rintro _ _ ⟨rfl, rfl⟩
  rw [shD_book, shB_book]
  simp -implicitDefEqProofs only [go_sem, ↓reduceIte, Nat.reduceEqDiff, Nat.reduceAdd, Nat.reduceLeDiff]
  refine (specWays b hf hs team place).call (br := true) ⟨Vw.book (HasBook.tail [_] [] _), Vw.v _, Vw.v _, trivial⟩ (fun _ => rfl) ?_
  simp -implicitDefEqProofs only [go_sem, ↓reduceIte, Nat.reduceEqDiff, Nat.reduceAdd, Nat.reduceLeDiff, memBook, dBookOwn]
  refine (toBook b hs).callp (.vs (eBook b) .nil) ?_
  rintro _ _ ⟨rfl, rfl⟩
  rw [shD_book, shB_book]
  simp -implicitDefEqProofs only [go_sem, ↓reduceIte, Nat.reduceEqDiff, Nat.reduceAdd, Nat.reduceLeDiff, memBook, dBookOwn]
  refine (implWays b hf hs team place).call (br := true) ⟨Vw.book (i := 6) (HasBook.of rfl rfl rfl rfl rfl), Vw.v _, Vw.v _, trivial⟩ (fun _ => rfl) ?_
  simp -implicitDefEqProofs only [go_sem, ↓reduceIte, Nat.reduceEqDiff, Nat.reduceAdd, Nat.reduceLeDiff, bne_self_eq_false, beq_self_eq_true]
  refine (toBook b hs).callp (.vs (eBook b) .nil) ?_
  rintro _ _ ⟨rfl, rfl⟩
  rw [shD_book, shB_book]
  simp -implicitDefEqProofs only [go_sem, ↓reduceIte, Nat.reduceEqDiff, Nat.reduceAdd, Nat.reduceLeDiff, memBook, dBookOwn]
  refine (eqBook b b hf.field hf.ladder hf.games hf.fair hf.taken).call (br := true) ⟨Vw.book (i := 6) (HasBook.of rfl rfl rfl rfl rfl), Vw.book (i := 12) (HasBook.of rfl rfl rfl rfl rfl), trivial⟩ (fun _ => rfl) ?_
  simp -implicitDefEqProofs only [go_sem, ↓reduceIte, Nat.reduceEqDiff, Nat.reduceAdd, Nat.reduceLeDiff, decide_true]
  exact finK_v rfl

theorem lawDecided (b : Book) (hf : Fits b) (team place : Int) : AFun Tryz.prog F.laws_FnExactIsDecided [dBook b, DV (vInt team), DV (vInt place)] [] fun d _ => d = DV (.bool true) := by
  refine AFun.intro k_laws_FnExactIsDecided (by simp) ?_
  unfold c_laws_FnExactIsDecided
  simp only [argE, Nat.reduceAdd]
  simp only [dBook, eBook_eq]
  simp -implicitDefEqProofs only [go_sem, ↓reduceIte, Nat.reduceEqDiff, Nat.reduceAdd, Nat.reduceLeDiff]
  refine (szBook b 1048576 (by omega) (by omega) hf).callp (.vs (eBook b) (.v _ .nil)) ?_
  by_cases hz : (1048576 : Int) < szB b
  · rw [if_pos hz]
    simp -implicitDefEqProofs only [go_sem, ↓reduceIte, Nat.reduceEqDiff, Nat.reduceAdd, Nat.reduceLeDiff, Int.reduceLT]
    exact finK_v rfl
  rw [if_neg hz]
  have hs : Small b := Small.of (by omega)
  have hz' : ¬ (1048576 - (szB b : Int) < 0) := by omega
  simp -implicitDefEqProofs only [go_sem, ↓reduceIte, Nat.reduceEqDiff, Nat.reduceAdd, Nat.reduceLeDiff, hz']
  refine (toBook b hs).callp (.vs (eBook b) .nil) ?_
  rintro _ _ ⟨rfl, rfl⟩
  rw [shD_book, shB_book]
  simp -implicitDefEqProofs only [go_sem, ↓reduceIte, Nat.reduceEqDiff, Nat.reduceAdd, Nat.reduceLeDiff]
  refine (specDecided b hf hs team place).call (br := true) ⟨Vw.book (HasBook.tail [_] [] _), Vw.v _, Vw.v _, trivial⟩ (fun _ => rfl) ?_
  simp -implicitDefEqProofs only [go_sem, ↓reduceIte, Nat.reduceEqDiff, Nat.reduceAdd, Nat.reduceLeDiff, memBook, dBookOwn]
  refine (toBook b hs).callp (.vs (eBook b) .nil) ?_
  rintro _ _ ⟨rfl, rfl⟩
  rw [shD_book, shB_book]
  simp -implicitDefEqProofs only [go_sem, ↓reduceIte, Nat.reduceEqDiff, Nat.reduceAdd, Nat.reduceLeDiff, memBook, dBookOwn]
  refine (implDecided b hf hs team place).call (br := true) ⟨Vw.book (i := 6) (HasBook.of rfl rfl rfl rfl rfl), Vw.v _, Vw.v _, trivial⟩ (fun _ => rfl) ?_
  simp -implicitDefEqProofs only [go_sem, ↓reduceIte, Nat.reduceEqDiff, Nat.reduceAdd, Nat.reduceLeDiff, bne_self_eq_false, beq_self_eq_true]
  refine (toBook b hs).callp (.vs (eBook b) .nil) ?_
  rintro _ _ ⟨rfl, rfl⟩
  rw [shD_book, shB_book]
  simp -implicitDefEqProofs only [go_sem, ↓reduceIte, Nat.reduceEqDiff, Nat.reduceAdd, Nat.reduceLeDiff, memBook, dBookOwn]
  refine (eqBook b b hf.field hf.ladder hf.games hf.fair hf.taken).call (br := true) ⟨Vw.book (i := 6) (HasBook.of rfl rfl rfl rfl rfl), Vw.book (i := 12) (HasBook.of rfl rfl rfl rfl rfl), trivial⟩ (fun _ => rfl) ?_
  simp -implicitDefEqProofs only [go_sem, ↓reduceIte, Nat.reduceEqDiff, Nat.reduceAdd, Nat.reduceLeDiff, decide_true]
  exact finK_v rfl

end Go.Proofs.YtmfmiobehjgeiaaGreat.Ab

namespace Go.Proofs.YtmfmiobehjgeiaaGreat.Ab
open Go

/-- The first ending that is good enough. -/
def firstGood (b : Book) (team place : Int) : Option Nat := (List.range (ranksAt b team).length).find? fun i => ((ranksAt b team)[i]?).any fun r => decide (r ≤ place)
def canL (b : Book) (team place : Int) : List Int := match firstGood b team place with
  | some i => outAt (openG b.games).length i
  | none => []
def dList (l : List Int) (ok : Bool) : D := .tup [.c (.sl 1 0 0 l.length), .c (.v (.bool ok))]

theorem find_range {f : Nat → Bool} {i n : Nat} (h : i < n) (hf : f i = true) (hp : (List.range i).any f = false) : (List.range n).find? f = some i := by
  rw [List.find?_range_eq_some]
  refine ⟨hf, List.mem_range.2 h, fun j hj => ?_⟩
  have := List.any_eq_false.1 hp j (List.mem_range.2 hj)
  simpa using this
theorem find_range_none {f : Nat → Bool} {n : Nat} (hp : (List.range n).any f = false) : (List.range n).find? f = none := by
  rw [List.find?_eq_none]
  intro x hx
  have := List.any_eq_false.1 hp x hx
  simpa using this

/-- Nil beside data, read as an own slice without room. -/
theorem finK_nilT {K : D → List Blk → Prop} {m : List Blk} (ok : Bool) (k : K (dList [] ok) [.cells (cOf eInt [])]) : finK 0 m K (.tup [.c .nil, .c (.v (.bool ok))]) := by
  refine ⟨dList [] ok, [.cells []], fun X σ w v hm hv => ?_, k⟩
  have hno : ∀ b, ¬ Own (fun i => if i = 0 then some none else none) [Blk.cells []] b := fun b ⟨id, cs, N, _, h2⟩ => by
    simp only at h2
    split at h2 <;> cases h2
  obtain ⟨vs, rfl, h1, h2⟩ := hv
  refine ⟨fun i => if i = 0 then some none else none, ⟨vs, rfl, h1, fun i x hx => ?_⟩, ⟨fun id cs hid => ?_, fun id id' b N N' cs cs' _ _ h3 _ => ?_, fun b hb => ⟨(hm.far b hb).1, hno b⟩, fun id hid => ?_⟩,
    ⟨fun id hid => absurd hid (Nat.not_lt_zero _), rfl, rfl, rfl, Nat.le_refl _, fun _ _ _ => rfl, fun b hb => (hno b hb).elim⟩, Nat.zero_le _⟩
  · match i, hx with
    | 0, hx =>
      cases hx
      obtain ⟨u, k1, A, rfl⟩ := h2 0 _ rfl
      exact ⟨_, k1, .inl ⟨by simp, rfl, A, rfl⟩⟩
    | 1, hx =>
      cases hx
      obtain ⟨u, k1, k2⟩ := h2 1 _ rfl
      have : u = .bool ok := repV_bool (show RepV _ _ _ _ from k2)
      subst this
      exact ⟨_, k1, .bool _⟩
    | i + 2, hx => simp at hx
  · cases id with
    | zero => cases hid; exact .inl ⟨by simp, rfl⟩
    | succ id => simp at hid
  · split at h3 <;> cases h3
  · simp only [List.length_cons, List.length_nil] at hid
    exact if_neg (by omega)

/-- One own list beside data. -/
theorem finK_list {K : D → List Blk → Prop} {m : List Blk} {id n : Nat} {l : List Int} (ok : Bool) (hm : m[id]? = some (.cells (cOf eInt l))) (hn : n = l.length) (k : K (dList l ok) [.cells (cOf eInt l)]) : finK 0 m K (.tup [.c (.sl 1 id 0 n), .c (.v (.bool ok))]) := by
  subst hn
  refine finK_pick [id] [.cells (cOf eInt l)] (dList l ok) (by simp) rfl (fun j b' hj => ?_) ⟨.inr rfl, .inr rfl, trivial⟩ ?_ k
  · match j, hj with
    | 0, hj => cases hj; exact ⟨cOf_data _ _, hm⟩
    | j + 1, hj => simp at hj
  · exact ⟨Nat.zero_lt_one, trivial, trivial⟩

theorem specCanFinish (b : Book) (hf : Fits b) (hs : Small b) (team place : Int) : AFun Tryz.prog F.spec_CanFinish [dBook b, DV (vInt team), DV (vInt place)] [] fun d m => d = dList (canL b team place) (firstGood b team place).isSome ∧ m = [.cells (cOf eInt (canL b team place))] := by
  have hrl := ranksAt_len b team
  have hol := openG_len b.games
  have hg := hs.games
  refine AFun.intro k_spec_CanFinish (by simp) ?_
  unfold c_spec_CanFinish
  simp only [argE, Nat.reduceAdd]
  simp only [dBook, eBook_eq]
  simp -implicitDefEqProofs only [go_sem, ↓reduceIte, Nat.reduceEqDiff, Nat.reduceAdd, Nat.reduceLeDiff]
  refine (specL16Ranks b hf hs team).callp (.vs (eBook b) (.v _ .nil)) ?_
  rw [canL, firstGood]
  generalize ranksAt b team = l at *
  simp -implicitDefEqProofs only [go_sem, ↓reduceIte, Nat.reduceEqDiff, Nat.reduceAdd, Nat.reduceLeDiff, vInts]
  refine loop_st (S := Nat) (fun i => [(3, DC (.ptr 0 0)), (2, DV (vInt place)), (12, DV (vInts l)), (13, DV (vInt l.length)), (14, DV (vInt i))]) (fun i => [.cells ((eBook b).map .v)]) (fun i => l.length - i) (fun i => i ≤ l.length ∧ ((List.range i).any fun i => (l[i]?).any fun r => decide (r ≤ place)) = false) 0 (Nat.zero_le _)
    ⟨rfl, rfl, rfl, rfl, rfl, trivial⟩ rfl ⟨Nat.zero_le _, rfl⟩ ?_
  rintro i ⟨hi, hno⟩
  simp only [eBook_eq]
  simp -implicitDefEqProofs only [go_sem, ↓reduceIte, Nat.reduceEqDiff, Nat.reduceAdd, Nat.reduceLeDiff, vInts, vInt]
  refine condA_dec (fun h => ?_) (fun h => ?_)
  · have hlt : i < l.length := by omega
    simp -implicitDefEqProofs only [go_sem, ↓reduceIte, Nat.reduceEqDiff, Nat.reduceAdd, Nat.reduceLeDiff, List.getElem?_eq_getElem hlt]
    by_cases hr : l[i] ≤ place
    · simp -implicitDefEqProofs only [go_sem, ↓reduceIte, Nat.reduceEqDiff, Nat.reduceAdd, Nat.reduceLeDiff, hr]
      refine (specOpenD b.games hg).callp (.v _ .nil) ?_
      simp -implicitDefEqProofs only [go_sem, ↓reduceIte, Nat.reduceEqDiff, Nat.reduceAdd, Nat.reduceLeDiff, vInts]
      refine (specL16At (openG b.games).length i (by omega) (by omega)).callp (.v _ (.v _ .nil)) ?_
      rintro _ _ ⟨rfl, rfl⟩
      simp -implicitDefEqProofs only [go_sem, ↓reduceIte, Nat.reduceEqDiff, Nat.reduceAdd, Nat.reduceLeDiff, shD_sl, shB_cells, shC_cOf]
      have hfind := find_range (f := fun i => (l[i]?).any fun r => decide (r ≤ place)) hlt (by rw [List.getElem?_eq_getElem hlt]; simpa using hr) hno
      refine finK_list true (l := outAt (openG b.games).length i) rfl (outAt_len _ _).symm ?_
      simp [hfind]
    · simp -implicitDefEqProofs only [go_sem, ↓reduceIte, Nat.reduceEqDiff, Nat.reduceAdd, Nat.reduceLeDiff, hr, w64s (show i < 4611686018427387904 by omega)]
      exact next_of (i + 1) (by omega) ⟨by omega, by rw [any_range_succ, hno, List.getElem?_eq_getElem hlt]; simpa using hr⟩ (Nat.zero_le _) ⟨rfl, rfl, rfl, rfl, rfl, trivial⟩ rfl
  · simp -implicitDefEqProofs only [go_sem, ↓reduceIte, Nat.reduceEqDiff, Nat.reduceAdd, Nat.reduceLeDiff]
    have hin : i = l.length := by omega
    subst hin
    have hfind := find_range_none hno
    refine finK_nilT false ?_
    simp [hfind]

theorem Endm.at (m : List Blk) (o : Nat) (es : List En) (h : Endm m o es) (i : Nat) (hi : i < es.length) : rdm m o (0 + i * 2) 2 = some (cEn es[i]) := by
  have h1 : cEns es = cEns (es.take i) ++ (cEn es[i] ++ cEns (es.drop (i + 1))) := by
    have e : es = es.take i ++ (es[i] :: es.drop (i + 1)) := by rw [← List.drop_eq_getElem_cons hi, List.take_append_drop]
    refine (congrArg cEns e).trans ?_
    rw [cEns, List.flatMap_append, List.flatMap_cons]; rfl
  have h2 : (cEns (es.take i)).length = i * 2 := by rw [cEns_len, List.length_take]; congr 1; omega
  have h3 := cEns_len es
  unfold rdm
  rw [h.outer]
  show (if 0 + i * 2 + 2 ≤ (cEns es).length then some (((cEns es).drop (0 + i * 2)).take 2) else none) = some (cEn es[i])
  rw [if_pos (by omega), Nat.zero_add, h1, ← h2, List.drop_left]; rfl

def En.sh (n : Nat) (e : En) : En := ⟨e.id + n, e.rid + n, e.list, e.ranks⟩
theorem cEns_sh (n : Nat) (es : List En) : (cEns es).map (shC n) = cEns (es.map (En.sh n)) := by
  induction es with
  | nil => rfl
  | cons e r ih =>
    rw [cEns] at ih ⊢
    rw [List.flatMap_cons, List.map_append, ih, List.map_cons]
    rfl
theorem Endm.sh {m : List Blk} {o : Nat} {es : List En} (h : Endm m o es) (pre : List Blk) : Endm (pre ++ m.map (shB pre.length)) (o + pre.length) (es.map (En.sh pre.length)) := by
  have at_ : ∀ id, (pre ++ m.map (shB pre.length))[id + pre.length]? = (m[id]?).map (shB pre.length) := fun id => by
    rw [List.getElem?_append_right (by omega), Nat.add_sub_cancel, List.getElem?_map]
  refine ⟨?_, fun e he => ?_, fun e he => ?_, fun e he => ?_⟩
  · rw [at_, h.outer, Option.map_some, shB_cells, cEns_sh]
  · obtain ⟨x, hx, rfl⟩ := List.mem_map.1 he
    show (pre ++ m.map (shB pre.length))[x.id + pre.length]? = _
    rw [at_, h.list x hx, Option.map_some, shB_cells, shC_cOf]; rfl
  · obtain ⟨x, hx, rfl⟩ := List.mem_map.1 he
    show (pre ++ m.map (shB pre.length))[x.rid + pre.length]? = _
    rw [at_, h.ranks x hx, Option.map_some, shB_cells, shC_cOf]; rfl
  · obtain ⟨x, hx, rfl⟩ := List.mem_map.1 he
    have := h.far x hx
    show x.id + pre.length ≠ o + pre.length ∧ x.rid + pre.length ≠ o + pre.length
    omega
theorem Endm.grow {m : List Blk} {o : Nat} {es : List En} (h : Endm m o es) (ex : List Blk) : Endm (m ++ ex) o es :=
  ⟨(List.getElem?_append_left (List.getElem?_eq_some_iff.1 h.outer).1).trans h.outer, fun e he => (List.getElem?_append_left (List.getElem?_eq_some_iff.1 (h.list e he)).1).trans (h.list e he), fun e he => (List.getElem?_append_left (List.getElem?_eq_some_iff.1 (h.ranks e he)).1).trans (h.ranks e he), h.far⟩
theorem endsM_list (b : Book) (team : Int) (i : Nat) (hi : i < (endsM b team).length) : (endsM b team)[i].1 = outAt (openG b.games).length i := by
  by_cases h : short b = true ∧ inB team 0 (b.field.length - 1) = true
  · have e1 : endsM b team = (List.range (countM b)).map fun i => (outAt (openG b.games).length i, ranksM (playedM b (outAt (openG b.games).length i))) := if_pos h
    simp [e1]
  · have e1 : endsM b team = [] := if_neg h
    rw [e1] at hi; simp at hi

theorem wrm_two (m : List Blk) (a b x y : C) : wrm (m ++ [.cells [a, b]]) m.length 0 2 [x, y] = some (m ++ [.cells [x, y]]) := by
  have h : (m ++ [Blk.cells [a, b]])[m.length]? = some (.cells [a, b]) := by rw [List.getElem?_append_right (Nat.le_refl _), Nat.sub_self]; rfl
  rw [wrm_of _ m.length 0 2 [x, y] [a, b] h rfl (Nat.le_refl _), List.set_append_right _ _ (Nat.le_refl _), Nat.sub_self]; rfl
theorem rdm_two0 (m : List Blk) (x y : C) : rdm (m ++ [.cells [x, y]]) m.length 0 1 = some [x] := by
  unfold rdm; rw [List.getElem?_append_right (Nat.le_refl _), Nat.sub_self]; rfl
theorem rdm_two1 (m : List Blk) (x y : C) : rdm (m ++ [.cells [x, y]]) m.length 1 1 = some [y] := by
  unfold rdm; rw [List.getElem?_append_right (Nat.le_refl _), Nat.sub_self]; rfl

theorem implCanFinish (b : Book) (hf : Fits b) (hs : Small b) (team place : Int) : AFun Tryz.prog F.impl_CanFinish [dBook b, DV (vInt team), DV (vInt place)] [] fun d m => d = dList (canL b team place) (firstGood b team place).isSome ∧ m = [.cells (cOf eInt (canL b team place))] := by
  have hrl := ranksAt_len b team
  have hrank := endsM_rank b team
  have hell := endsM_len b team
  refine AFun.intro k_impl_CanFinish (by simp) ?_
  unfold c_impl_CanFinish
  simp only [argE, Nat.reduceAdd]
  simp only [dBook, eBook_eq]
  simp -implicitDefEqProofs only [go_sem, ↓reduceIte, Nat.reduceEqDiff, Nat.reduceAdd, Nat.reduceLeDiff]
  refine (implEndings b hf hs team).callp (.vs (eBook b) (.v _ .nil)) ?_
  rintro d m' ⟨o, es, rfl, hE, hmap, hol⟩
  have hE := hE.sh [Blk.cells [C.v (vTeams b.field), C.v (V.int IntKind.i64 b.rules.win), C.v (V.int IntKind.i64 b.rules.draw), C.v (V.int IntKind.i64 b.rules.loss), C.v (vInts b.rules.ladder), C.v (V.bool b.rules.again), C.v (vGames b.games), C.v (vInts b.fair), C.v (vInts b.taken)]]
  rw [canL, firstGood]
  generalize ranksAt b team = l at *
  have hlen : es.length = l.length := by rw [← hell, ← hmap, List.length_map]
  have hat : ∀ i (hi : i < es.length), i < l.length ∧ 0 ≤ team ∧ team.toNat < es[i].ranks.length ∧ es[i].ranks.getD team.toNat 0 = l.getD i 0 := fun i hi => by
    have hi2 : i < (endsM b team).length := by rw [← hmap, List.length_map]; exact hi
    have hi3 : i < l.length := by omega
    obtain ⟨k1, k2, k3, k4⟩ := hrank i hi2 hi3
    have e : (endsM b team)[i] = (es[i].list, es[i].ranks) := by simp [← hmap]
    simp only [e] at k1 k3
    exact ⟨hi3, k2, k1, by rw [getD_of k1, getD_of hi3, k3]⟩
  have hlist : ∀ i (hi : i < es.length), es[i].list = outAt (openG b.games).length i := fun i hi => by
    have hi2 : i < (endsM b team).length := by rw [← hmap, List.length_map]; exact hi
    have e : (endsM b team)[i] = (es[i].list, es[i].ranks) := by simp [← hmap]
    have := endsM_list b team i hi2
    rw [e] at this; exact this
  clear hmap hrank hell
  have ho1 : (es.map (En.sh 1)).length = es.length := by simp
  simp -implicitDefEqProofs only [go_sem, ↓reduceIte, Nat.reduceEqDiff, Nat.reduceAdd, Nat.reduceLeDiff, shD_sl]
  refine loop_st (S := Nat × List Blk) (fun s => [(1, DV (vInt team)), (2, DV (vInt place)), (12, DC (.sl 2 (o + 1) 0 es.length)), (13, DV (vInt es.length)), (14, DV (vInt s.1))]) (fun s => s.2) (fun s => es.length - s.1)
    (fun s => s.1 ≤ es.length ∧ Endm s.2 (o + 1) (es.map (En.sh 1)) ∧ ((List.range s.1).any fun i => (l[i]?).any fun r => decide (r ≤ place)) = false)
    (0, _) (Nat.zero_le _) ⟨rfl, rfl, rfl, rfl, rfl, trivial⟩ rfl ⟨Nat.zero_le _, hE, rfl⟩ ?_
  rintro ⟨i, m⟩ ⟨hi, hE, hno⟩
  simp only at hi hE hno ⊢
  simp -implicitDefEqProofs only [go_sem, ↓reduceIte, Nat.reduceEqDiff, Nat.reduceAdd, Nat.reduceLeDiff, vInt]
  refine condA_dec (fun h => ?_) (fun h => ?_)
  · have hlt : i < es.length := by omega
    obtain ⟨k1, k2, k3, k4⟩ := hat i hlt
    rw [getD_of k1, getD_of k3] at k4
    have hrd := hE.at m (o + 1) _ i (by rw [ho1]; exact hlt)
    have hge : (es.map (En.sh 1))[i]'(by rw [ho1]; exact hlt) = En.sh 1 es[i] := by simp
    rw [hge] at hrd
    have hmem : En.sh 1 es[i] ∈ es.map (En.sh 1) := List.mem_map_of_mem (List.getElem_mem hlt)
    have hlq := hE.list _ hmem
    have hrq := hE.ranks _ hmem
    simp only [En.sh] at hlq hrq
    generalize hei : es[i] = e at *
    have hlt' : (i : Int) < es.length := by omega
    have k5 : team < (e.ranks.length : Int) := by omega
    simp -implicitDefEqProofs only [go_sem, ↓reduceIte, Nat.reduceEqDiff, Nat.reduceAdd, Nat.reduceLeDiff, hlt', ↓hrd, cEn, En.sh]
    have hr1 := fun ex => rdI (m := m ++ ex) (i := team.toNat) ((List.getElem?_append_left (List.getElem?_eq_some_iff.1 hrq).1).trans hrq) k3
    have hlt2 : i < l.length := k1
    by_cases hr : l[i] ≤ place
    · have hr' : e.ranks[team.toNat] ≤ place := by rw [k4]; exact hr
      simp -implicitDefEqProofs only [go_sem, ↓reduceIte, Nat.reduceEqDiff, Nat.reduceAdd, Nat.reduceLeDiff, ↓wrm_two, ↓rdm_two1, ↓rdm_two0, k2, k5, ↓hr1, hr']
      have hfind := find_range (f := fun i => (l[i]?).any fun r => decide (r ≤ place)) hlt2 (by rw [List.getElem?_eq_getElem hlt2]; simpa using hr) hno
      have hli := hlist i hlt
      rw [hei] at hli
      refine finK_list true (l := outAt (openG b.games).length i) ((List.getElem?_append_left (List.getElem?_eq_some_iff.1 hlq).1).trans (by rw [hlq, hli])) (by rw [hli]) ?_
      simp [hfind]
    · have hr' : ¬ e.ranks[team.toNat] ≤ place := by rw [k4]; exact hr
      simp -implicitDefEqProofs only [go_sem, ↓reduceIte, Nat.reduceEqDiff, Nat.reduceAdd, Nat.reduceLeDiff, ↓wrm_two, ↓rdm_two1, ↓rdm_two0, k2, k5, ↓hr1, hr', w64s (show i < 4611686018427387904 by omega)]
      exact next_of (s := ((i, m) : Nat × List Blk)) (i + 1, _) (by show es.length - (i + 1) < es.length - i; omega) ⟨by show i + 1 ≤ es.length; omega, hE.grow _, by
        show ((List.range (i + 1)).any fun i => (l[i]?).any fun r => decide (r ≤ place)) = false
        rw [any_range_succ, hno, List.getElem?_eq_getElem hlt2]; simpa using hr⟩ (Nat.zero_le _) ⟨rfl, rfl, rfl, rfl, rfl, trivial⟩ rfl
  · simp -implicitDefEqProofs only [go_sem, ↓reduceIte, Nat.reduceEqDiff, Nat.reduceAdd, Nat.reduceLeDiff]
    have hin : i = l.length := by omega
    subst hin
    have hfind := find_range_none hno
    refine finK_nilT false ?_
    simp [hfind]

end Go.Proofs.YtmfmiobehjgeiaaGreat.Ab

namespace Go.Proofs.YtmfmiobehjgeiaaGreat.Ab
open Go

theorem handMark {m : List Blk} {K : D → List Blk → Prop} {b : Book} {i k : Nat} (hm : HasBook m i b) (h0 : 0 < k) (h : mk5 b k < 4611686018427387904) (hK : K (DV (vInt (mk5 b k : Nat))) (setB m [i, i + 1, i + 2, i + 3, i + 4] (memBook (markedBook b k)))) :
    AFunG Tryz.prog false F.laws_markBook [dBookOwn b i, DV (vInt k)] m K := by
  refine AFunG.hand (br := false) [i, i + 1, i + 2, i + 3, i + 4] (markBook b k h0 h) (by simp) rfl (fun j b' hj => ?_) ⟨VwM.ren (dBookOwn_le b _ 0 rfl) (dBookOwn_lt b), VwM.ren (.inr rfl) trivial, trivial⟩ (fun d m1 hd hl => ⟨fun h => (by cases h), ?_⟩)
  · have hjl := (List.getElem?_eq_some_iff.1 hj).1
    have h1 := hm j b' hj
    match j, hj, h1 with
    | 0, hj, h1 => cases hj; exact ⟨_, h1, ltCs_vs _, leCs_vs _⟩
    | 1, hj, h1 => cases hj; exact ⟨_, h1, ltCs_vs _, leCs_vs _⟩
    | 2, hj, h1 => cases hj; exact ⟨_, h1, ltCs_vs _, leCs_vs _⟩
    | 3, hj, h1 => cases hj; exact ⟨_, h1, ltCs_vs _, leCs_vs _⟩
    | 4, hj, h1 => cases hj; exact ⟨_, h1, ltCs_vs _, leCs_vs _⟩
    | j + 5, hj, _ => simp [memBook] at hj
  · obtain ⟨rfl, rfl⟩ := hd
    have e : ∀ f : Nat → Nat, (memBook (markedBook b k)).map (renB f) = memBook (markedBook b k) := fun f => by
      simp only [memBook, List.map_cons, List.map_nil, renB, cOf, renC_vs]
    rw [e]
    show K _ (setB m [i, i + 1, i + 2, i + 3, i + 4] (memBook (markedBook b k)) ++ [])
    rw [List.append_nil]; exact hK

theorem mk5_small {b : Book} (hs : Small b) : mk5 b 1 < 4611686018427387904 := by
  obtain ⟨h1, h2, h3, h4, h5⟩ := hs
  simp only [mk5, mk4, mk3, mk2, mk1]; omega

theorem shD_list (n : Nat) (l : List Int) (ok : Bool) : shD n (dList l ok) = .tup [.c (.sl 1 n 0 l.length), .c (.v (.bool ok))] := by
  simp [dList, shD, shT, shC, renC]

def canOk (b : Book) (team place : Int) : Bool := (firstGood b team place).isSome
theorem canL_len (b : Book) (team place : Int) : (canL b team place).length ≤ 1048576 := by
  unfold canL; split
  · rename_i i hi
    rw [outAt_len]
    have h1 := List.mem_of_find?_eq_some hi
    have h2 : 0 < (ranksAt b team).length := by have := List.mem_range.1 h1; omega
    unfold ranksAt at h2
    split at h2
    · rename_i h; have := (short_ok h.1).2; omega
    · simp at h2
  · simp

theorem lawCanFinish (b : Book) (hf : Fits b) (team place : Int) : AFun Tryz.prog F.laws_FnExactCanFinish [dBook b, DV (vInt team), DV (vInt place)] [] fun d _ => d = DV (.bool true) := by
  refine AFun.intro k_laws_FnExactCanFinish (by simp) ?_
  unfold c_laws_FnExactCanFinish
  simp only [argE, Nat.reduceAdd]
  simp only [dBook, eBook_eq]
  simp -implicitDefEqProofs only [go_sem, ↓reduceIte, Nat.reduceEqDiff, Nat.reduceAdd, Nat.reduceLeDiff]
  refine (szBook b 1048576 (by omega) (by omega) hf).callp (.vs (eBook b) (.v _ .nil)) ?_
  by_cases hz : (1048576 : Int) < szB b
  · rw [if_pos hz]
    simp -implicitDefEqProofs only [go_sem, ↓reduceIte, Nat.reduceEqDiff, Nat.reduceAdd, Nat.reduceLeDiff, Int.reduceLT]
    exact finK_v rfl
  rw [if_neg hz]
  have hs : Small b := Small.of (by omega)
  have hz' : ¬ (1048576 - (szB b : Int) < 0) := by omega
  have hmk := mk5_small hs
  have hL := canL_len b team place
  simp -implicitDefEqProofs only [go_sem, ↓reduceIte, Nat.reduceEqDiff, Nat.reduceAdd, Nat.reduceLeDiff, hz']
  refine (toBook b hs).callp (.vs (eBook b) .nil) ?_
  rintro _ _ ⟨rfl, rfl⟩
  rw [shD_book, shB_book]
  simp -implicitDefEqProofs only [go_sem, ↓reduceIte, Nat.reduceEqDiff, Nat.reduceAdd, Nat.reduceLeDiff]
  have hspec : AFun Tryz.prog F.spec_CanFinish [dBook b, DV (vInt team), DV (vInt place)] [] fun d m => d = dList (canL b team place) (canOk b team place) ∧ m = [.cells (cOf eInt (canL b team place))] := specCanFinish b hf hs team place
  refine hspec.callb ⟨Vw.book (HasBook.tail [_] [] _), Vw.v _, Vw.v _, trivial⟩ (fun d m' ⟨h1, h2⟩ => by subst h1; subst h2; exact ⟨rfl, by simp only [List.all_cons, List.all_nil, Bool.and_true]; exact noRo_cOf _ (fun _ => rfl) _⟩) ?_
  rintro _ _ ⟨rfl, rfl⟩
  have himpl : ∀ (m : List Blk) (K : D → List Blk → Prop) (i : Nat), HasBook m i b → (∀ d m', (d = dList (canL b team place) (canOk b team place) ∧ m' = [Blk.cells (cOf eInt (canL b team place))]) → K (shD m.length d) (m ++ m'.map (shB m.length))) → AFunG Tryz.prog false F.impl_CanFinish [dBookOwn b i, DV (vInt team), DV (vInt place)] m K := fun m K i hb hq => (implCanFinish b hf hs team place).callb ⟨Vw.book (i := i) hb, Vw.v _, Vw.v _, trivial⟩ (fun d m' ⟨h1, h2⟩ => by subst h1; subst h2; exact ⟨rfl, by simp only [List.all_cons, List.all_nil, Bool.and_true]; exact noRo_cOf _ (fun _ => rfl) _⟩) hq
  generalize canL b team place = l at *
  generalize canOk b team place = ok at *
  rw [shD_list]
  simp -implicitDefEqProofs only [go_sem, ↓reduceIte, Nat.reduceEqDiff, Nat.reduceAdd, Nat.reduceLeDiff, memBook, dBookOwn, shB_cells, shC_cOf]
  refine (toBook b hs).callp (.vs (eBook b) .nil) ?_
  rintro _ _ ⟨rfl, rfl⟩
  rw [shD_book, shB_book]
  simp -implicitDefEqProofs only [go_sem, ↓reduceIte, Nat.reduceEqDiff, Nat.reduceAdd, Nat.reduceLeDiff, memBook, dBookOwn]
  refine himpl _ _ 7 (HasBook.of rfl rfl rfl rfl rfl) ?_
  rintro _ _ ⟨rfl, rfl⟩
  rw [shD_list]
  simp -implicitDefEqProofs only [go_sem, ↓reduceIte, Nat.reduceEqDiff, Nat.reduceAdd, Nat.reduceLeDiff, shB_cells, shC_cOf]
  refine (eqIntS l l (by omega)).call (br := true) ⟨Vw.ints (l := l) rfl rfl, Vw.ints (l := l) rfl rfl, trivial⟩ (fun _ => rfl) ?_
  simp -implicitDefEqProofs only [go_sem, ↓reduceIte, Nat.reduceEqDiff, Nat.reduceAdd, Nat.reduceLeDiff, decide_true, beq_self_eq_true, bne_self_eq_false]
  refine (toBook b hs).callp (.vs (eBook b) .nil) ?_
  rintro _ _ ⟨rfl, rfl⟩
  rw [shD_book, shB_book]
  simp -implicitDefEqProofs only [go_sem, ↓reduceIte, Nat.reduceEqDiff, Nat.reduceAdd, Nat.reduceLeDiff, memBook, dBookOwn]
  refine (eqBook b b hf.field hf.ladder hf.games hf.fair hf.taken).call (br := true) ⟨Vw.book (i := 7) (HasBook.of rfl rfl rfl rfl rfl), Vw.book (i := 14) (HasBook.of rfl rfl rfl rfl rfl), trivial⟩ (fun _ => rfl) ?_
  simp -implicitDefEqProofs only [go_sem, ↓reduceIte, Nat.reduceEqDiff, Nat.reduceAdd, Nat.reduceLeDiff, decide_true]
  refine handMark (b := b) (i := 7) (k := 1) (HasBook.of rfl rfl rfl rfl rfl) (by omega) hmk ?_
  have hnn : ¬ (((mk5 b 1 : Nat) : Int) < 0) := by omega
  simp -implicitDefEqProofs only [go_sem, ↓reduceIte, Nat.reduceEqDiff, Nat.reduceAdd, Nat.reduceLeDiff, memBook, setB, hnn]
  refine (eqIntS l l (by omega)).call (br := true) ⟨Vw.ints (l := l) rfl rfl, Vw.ints (l := l) rfl rfl, trivial⟩ (fun _ => rfl) ?_
  simp -implicitDefEqProofs only [go_sem, ↓reduceIte, Nat.reduceEqDiff, Nat.reduceAdd, Nat.reduceLeDiff, decide_true, beq_self_eq_true, bne_self_eq_false]
  refine hand1 (markIntS l 1 (by omega)) rfl (.v _ .nil) ?_
  rintro _ _ ⟨rfl, rfl⟩
  refine ⟨_, _, rfl, rfl, ?_⟩
  have hml : (marksI 1 l.length).length = l.length := by simp [marksI]
  have hheld := heldIntS (marksI 1 l.length) 1 (by omega)
  rw [hml, if_pos rfl] at hheld
  have hq0 : ¬ (((1 + l.length : Nat) : Int) < 0) := by omega
  simp -implicitDefEqProofs only [go_sem, ↓reduceIte, Nat.reduceEqDiff, Nat.reduceAdd, Nat.reduceLeDiff, vInt]
  refine hheld.call (br := true) ⟨Vw.ints (l := marksI 1 l.length) rfl hml.symm, Vw.v _, trivial⟩ (fun _ => rfl) ?_
  simp -implicitDefEqProofs only [go_sem, ↓reduceIte, Nat.reduceEqDiff, Nat.reduceAdd, Nat.reduceLeDiff, vInt, hq0, bne_self_eq_false]
  refine (toBook b hs).callp (.vs (eBook b) .nil) ?_
  rintro _ _ ⟨rfl, rfl⟩
  rw [shD_book, shB_book]
  simp -implicitDefEqProofs only [go_sem, ↓reduceIte, Nat.reduceEqDiff, Nat.reduceAdd, Nat.reduceLeDiff, memBook, dBookOwn]
  refine himpl _ _ 19 (HasBook.of rfl rfl rfl rfl rfl) ?_
  rintro _ _ ⟨rfl, rfl⟩
  rw [shD_list]
  simp -implicitDefEqProofs only [go_sem, ↓reduceIte, Nat.reduceEqDiff, Nat.reduceAdd, Nat.reduceLeDiff, shB_cells, shC_cOf]
  refine (eqIntS l l (by omega)).call (br := true) ⟨Vw.ints (l := l) rfl rfl, Vw.ints (l := l) rfl rfl, trivial⟩ (fun _ => rfl) ?_
  simp -implicitDefEqProofs only [go_sem, ↓reduceIte, Nat.reduceEqDiff, Nat.reduceAdd, Nat.reduceLeDiff, decide_true, beq_self_eq_true, bne_self_eq_false]
  refine hheld.call (br := true) ⟨Vw.ints (l := marksI 1 l.length) rfl hml.symm, Vw.v _, trivial⟩ (fun _ => rfl) ?_
  simp -implicitDefEqProofs only [go_sem, ↓reduceIte, Nat.reduceEqDiff, Nat.reduceAdd, Nat.reduceLeDiff, vInt, hq0, bne_self_eq_false]
  exact finK_v rfl

end Go.Proofs.YtmfmiobehjgeiaaGreat.Ab

namespace Go.Proofs.YtmfmiobehjgeiaaGreat.Ab
open Go

def chUp (l : List Int) (n : Nat) (place : Int) (k : Nat) : Nat → List Int
  | 0 => [0, 0, 0]
  | i + 1 => if (l[i]?).any (fun r => decide (r ≤ place)) = true then (chUp l n place k i).set ((outAt n i).getD k 0 - 1).toNat ((chUp l n place k i).getD ((outAt n i).getD k 0 - 1).toNat 0 + 1) else chUp l n place k i
theorem chUp_len (l : List Int) (n : Nat) (place : Int) (k : Nat) : ∀ i, (chUp l n place k i).length = 3
  | 0 => rfl
  | i + 1 => by rw [chUp]; split <;> simp [chUp_len l n place k i]
theorem chUp_le (l : List Int) (n : Nat) (place : Int) (k : Nat) : ∀ i, ∀ x ∈ chUp l n place k i, 0 ≤ x ∧ x ≤ i
  | 0, x, h => by simp [chUp] at h; omega
  | i + 1, x, h => by
    have ih := chUp_le l n place k i
    rw [chUp] at h
    split at h
    · rcases List.mem_or_eq_of_mem_set h with h | h
      · have := ih x h; omega
      · have hg : ∀ j, 0 ≤ (chUp l n place k i).getD j 0 ∧ (chUp l n place k i).getD j 0 ≤ i := fun j => by
          by_cases hj : j < (chUp l n place k i).length
          · rw [getD_of hj]; exact ih _ (List.getElem_mem hj)
          · rw [List.getD_eq_getElem?_getD, List.getElem?_eq_none (by omega)]; simp
        have := hg ((outAt n i).getD k 0 - 1).toNat
        omega
    · have := ih x h; omega

/-- One more ending is counted. -/
theorem chUp_step {l : List Int} {n : Nat} {place : Int} {k i : Nat} (hk : k < n) (hi : i < l.length) (hr : l[i] ≤ place) : ∃ (h : k < (outAt n i).length) (j : Nat), (outAt n i)[k] - 1 = (j : Int) ∧ ∃ hj : j < (chUp l n place k i).length, chUp l n place k (i + 1) = (chUp l n place k i).set j ((chUp l n place k i)[j] + 1) := by
  have h : k < (outAt n i).length := by rw [outAt_len]; exact hk
  have h1 := outAt_in _ (List.getElem_mem h)
  have hl := chUp_len l n place k i
  have hj : ((outAt n i)[k] - 1).toNat < (chUp l n place k i).length := by omega
  refine ⟨h, ((outAt n i)[k] - 1).toNat, by omega, hj, ?_⟩
  rw [chUp, if_pos (by rw [List.getElem?_eq_getElem hi]; simpa using hr), getD_of h, getD_of hj]
theorem chUp_skip {l : List Int} {n : Nat} {place : Int} {k i : Nat} (hi : i < l.length) (hr : ¬ l[i] ≤ place) : chUp l n place k (i + 1) = chUp l n place k i := by
  rw [chUp, if_neg (by rw [List.getElem?_eq_getElem hi]; simpa using hr)]

theorem placeI_ge {l : List Int} {x : Int} : 0 ≤ placeI l x → ∃ h : (placeI l x).toNat < l.length, l[(placeI l x).toNat] = x := fun h => by
  unfold placeI firstI at *
  cases hf : (List.range l.length).find? (fun i => l[i]? == some x) with
  | none => rw [hf] at h; simp at h
  | some i =>
    have h1 := List.mem_range.1 (List.mem_of_find?_eq_some hf)
    have h2 := List.find?_some hf
    refine ⟨by simpa using h1, ?_⟩
    simp only [List.getElem?_eq_getElem h1, beq_iff_eq, Option.some.injEq] at h2
    simpa using h2

theorem specPlaceOf (l : List Int) (x : Int) (hl : l.length < 4611686018427387904) : AFunD Tryz.prog F.spec_PlaceOf [DV (vInts l), DV (vInt x)] (DV (vInt (placeI l x))) := by
  refine AFunD.intro k_spec_PlaceOf (by simp) ?pure ?_
  case pure => first | exact D.pure_v _ | exact D.pure_vs _
  unfold c_spec_PlaceOf
  simp only [argE, Nat.reduceAdd]
  simp -implicitDefEqProofs only [go_sem, ↓reduceIte, Nat.reduceEqDiff, Nat.reduceAdd, Nat.reduceLeDiff, vInts]
  refine loop_st (S := Nat) (fun i => [(1, DV (vInt x)), (7, DV (vInts l)), (8, DV (vInt l.length)), (9, DV (vInt i))]) (fun _ => []) (fun i => l.length - i) (fun i => i ≤ l.length ∧ ((List.range i).any fun i => l[i]? == some x) = false) 0 (Nat.zero_le _)
    ⟨rfl, rfl, rfl, rfl, trivial⟩ rfl ⟨Nat.zero_le _, rfl⟩ ?_
  rintro i ⟨hi, hno⟩
  simp -implicitDefEqProofs only [go_sem, ↓reduceIte, Nat.reduceEqDiff, Nat.reduceAdd, Nat.reduceLeDiff, vInts, vInt]
  refine condA_dec (fun h => ?_) (fun h => ?_)
  · have hlt : i < l.length := by omega
    by_cases hr : l[i] = x
    · simp -implicitDefEqProofs only [go_sem, ↓reduceIte, Nat.reduceEqDiff, Nat.reduceAdd, Nat.reduceLeDiff, List.getElem?_eq_getElem hlt, hr]
      exact finK_v ⟨by rw [placeI, firstI_some hlt (by rw [List.getElem?_eq_getElem hlt, hr]; simp) hno], rfl⟩
    · simp -implicitDefEqProofs only [go_sem, ↓reduceIte, Nat.reduceEqDiff, Nat.reduceAdd, Nat.reduceLeDiff, List.getElem?_eq_getElem hlt, hr, w64s (show i < 4611686018427387904 by omega)]
      exact next_of (i + 1) (by omega) ⟨by omega, by rw [any_range_succ, hno, List.getElem?_eq_getElem hlt]; simpa using hr⟩ (Nat.zero_le _) ⟨rfl, rfl, rfl, rfl, trivial⟩ rfl
  · simp -implicitDefEqProofs only [go_sem, ↓reduceIte, Nat.reduceEqDiff, Nat.reduceAdd, Nat.reduceLeDiff]
    have hin : i = l.length := by omega
    subst hin
    exact finK_v ⟨by rw [placeI, firstI_none hno], rfl⟩

theorem specAt (b : Book) (hs : Small b) (game : Int) : AFunD Tryz.prog F.spec_l19At [dBook b, DV (vInt game)] (DV (vInt (placeI (openG b.games) game))) := by
  have hol := openG_len b.games
  have hg := hs.games
  refine AFunD.intro k_spec_l19At (by simp) ?pure ?_
  case pure => first | exact D.pure_v _ | exact D.pure_vs _
  unfold c_spec_l19At
  simp only [argE, Nat.reduceAdd]
  simp only [dBook, eBook_eq]
  simp -implicitDefEqProofs only [go_sem, ↓reduceIte, Nat.reduceEqDiff, Nat.reduceAdd, Nat.reduceLeDiff]
  refine (specOpenD b.games hg).callp (.v _ .nil) ?_
  simp -implicitDefEqProofs only [go_sem, ↓reduceIte, Nat.reduceEqDiff, Nat.reduceAdd, Nat.reduceLeDiff]
  refine (specPlaceOf (openG b.games) game (by omega)).callp (.v _ (.v _ .nil)) ?_
  simp -implicitDefEqProofs only [go_sem, ↓reduceIte, Nat.reduceEqDiff, Nat.reduceAdd, Nat.reduceLeDiff]
  exact finK_v ⟨rfl, rfl⟩
theorem implAt (b : Book) (hs : Small b) (game : Int) : AFunD Tryz.prog F.impl_openPlace [dBook b, DV (vInt game)] (DV (vInt (placeI (openG b.games) game))) := by
  have hol := openG_len b.games
  have hg := hs.games
  refine AFunD.intro k_impl_openPlace (by simp) ?pure ?_
  case pure => first | exact D.pure_v _ | exact D.pure_vs _
  unfold c_impl_openPlace
  simp only [argE, Nat.reduceAdd]
  simp only [dBook, eBook_eq]
  simp -implicitDefEqProofs only [go_sem, ↓reduceIte, Nat.reduceEqDiff, Nat.reduceAdd, Nat.reduceLeDiff]
  refine (implOpenD b.games hg).callp (.v _ .nil) ?_
  simp -implicitDefEqProofs only [go_sem, ↓reduceIte, Nat.reduceEqDiff, Nat.reduceAdd, Nat.reduceLeDiff]
  refine (indexInt (openG b.games) game (by omega)).callp (.v _ (.v _ .nil)) ?_
  simp -implicitDefEqProofs only [go_sem, ↓reduceIte, Nat.reduceEqDiff, Nat.reduceAdd, Nat.reduceLeDiff]
  exact finK_v ⟨rfl, rfl⟩

def chOk (b : Book) (team _place game : Int) : Bool := decide (0 < (ranksAt b team).length) && decide (0 ≤ placeI (openG b.games) game)
def chAll (b : Book) (team place : Int) (k : Nat) : List Int := chUp (ranksAt b team) (openG b.games).length place k (ranksAt b team).length
def chL (b : Book) (team place game : Int) : List Int := if chOk b team place game = true then chAll b team place (placeI (openG b.games) game).toNat else []

theorem specChances (b : Book) (hf : Fits b) (hs : Small b) (team place game : Int) : AFun Tryz.prog F.spec_ChancesIf [dBook b, DV (vInt team), DV (vInt place), DV (vInt game)] [] fun d m => d = dList (chL b team place game) (chOk b team place game) ∧ m = [.cells (cOf eInt (chL b team place game))] := by
  have hrl := ranksAt_len b team
  have hol := openG_len b.games
  have hg := hs.games
  refine AFun.intro k_spec_ChancesIf (by simp) ?_
  unfold c_spec_ChancesIf
  simp only [argE, Nat.reduceAdd]
  simp only [dBook, eBook_eq]
  simp -implicitDefEqProofs only [go_sem, ↓reduceIte, Nat.reduceEqDiff, Nat.reduceAdd, Nat.reduceLeDiff]
  refine (specAt b hs game).callp (.vs (eBook b) (.v _ .nil)) ?_
  simp -implicitDefEqProofs only [go_sem, ↓reduceIte, Nat.reduceEqDiff, Nat.reduceAdd, Nat.reduceLeDiff]
  refine (specL16Ranks b hf hs team).callp (.vs (eBook b) (.v _ .nil)) ?_
  have hpl := @placeI_ge (openG b.games) game
  rw [chL, chAll, chOk]
  generalize ranksAt b team = l at *
  generalize placeI (openG b.games) game = k at *
  simp -implicitDefEqProofs only [go_sem, ↓reduceIte, Nat.reduceEqDiff, Nat.reduceAdd, Nat.reduceLeDiff, vInts]
  by_cases h0 : 0 < l.length
  rotate_left
  · have h0' : (l.length : Int) = 0 := by omega
    simp -implicitDefEqProofs only [go_sem, ↓reduceIte, Nat.reduceEqDiff, Nat.reduceAdd, Nat.reduceLeDiff, h0', Int.reduceEq]
    refine finK_nilT false ?_
    simp [h0]
  have h0' : ¬ (l.length : Int) = 0 := by omega
  by_cases h1 : k < 0
  · simp -implicitDefEqProofs only [go_sem, ↓reduceIte, Nat.reduceEqDiff, Nat.reduceAdd, Nat.reduceLeDiff, h0', h1]
    refine finK_nilT false ?_
    have : ¬ 0 ≤ k := by omega
    simp [this]
  have hk : k.toNat < (openG b.games).length := (hpl (by omega)).1
  clear hpl
  obtain ⟨k, rfl⟩ := Int.eq_ofNat_of_zero_le (show 0 ≤ k by omega)
  simp only [Int.toNat_natCast] at hk
  have hok : (decide (0 < l.length) && decide (0 ≤ (k : Int))) = true := by simp [h0]
  rw [hok, if_pos rfl]
  simp only [Int.toNat_natCast]
  simp -implicitDefEqProofs only [go_sem, ↓reduceIte, Nat.reduceEqDiff, Nat.reduceAdd, Nat.reduceLeDiff, h0', h1]
  refine (specOpenD b.games hg).callp (.v _ .nil) ?_
  simp -implicitDefEqProofs only [go_sem, ↓reduceIte, Nat.reduceEqDiff, Nat.reduceAdd, Nat.reduceLeDiff, vInts]
  generalize (openG b.games).length = n at hol hk ⊢
  refine loop_st (S := Nat) (fun i => [(2, DV (vInt place)), (10, DV (vInt k)), (12, DC (.sl 1 1 0 3)), (13, DV (vInt n)), (35, DV (vInts l)), (36, DV (vInt l.length)), (37, DV (vInt i))]) (fun i => [.cells ((eBook b).map .v), .cells (cOf eInt (chUp l n place k i))]) (fun i => l.length - i) (fun i => i ≤ l.length) 0 (Nat.zero_le _)
    ⟨rfl, rfl, rfl, rfl, rfl, rfl, rfl, trivial⟩ rfl (Nat.zero_le _) ?_
  intro i hi
  have hcl := chUp_len l n place k i
  have hcle := chUp_le l n place k i
  simp only [eBook_eq]
  simp -implicitDefEqProofs only [go_sem, ↓reduceIte, Nat.reduceEqDiff, Nat.reduceAdd, Nat.reduceLeDiff, vInts, vInt]
  refine condA_dec (fun h => ?_) (fun h => ?_)
  · have hlt : i < l.length := by omega
    by_cases hr : l[i] ≤ place
    · obtain ⟨q1, j, q2, q3, q4⟩ := chUp_step (n := n) hk hlt hr
      have hjv := hcle _ (List.getElem_mem q3)
      have hj3 : (j : Int) < ((3 : Nat) : Int) := by omega
      have q5 : IntKind.i64.wrap ((outAt n i)[k] - 1) = (j : Int) := by rw [w64 (by omega) (by omega), q2]
      have q6 := w64 (x := (chUp l n place k i)[j] + 1) (by omega) (by omega)
      have q7 : (k : Int) < ((outAt n i).length : Int) := by omega
      have hrd := fun (B : Blk) => rdI (m := [B, .cells (cOf eInt (chUp l n place k i))]) (id := 1) rfl q3
      have hwr := fun (B : Blk) (x : Int) => wrI (m := [B, .cells (cOf eInt (chUp l n place k i))]) (id := 1) rfl q3 x
      simp -implicitDefEqProofs only [go_sem, ↓reduceIte, Nat.reduceEqDiff, Nat.reduceAdd, Nat.reduceLeDiff, List.getElem?_eq_getElem hlt, hr]
      refine (own_toD (l := outAt n i) (by rw [outAt_len]; exact specL16At n i (by omega) (by omega))).callp (.v _ (.v _ .nil)) ?_
      simp -implicitDefEqProofs only [go_sem, ↓reduceIte, Nat.reduceEqDiff, Nat.reduceAdd, Nat.reduceLeDiff, vInts, q7, List.getElem?_eq_getElem q1, q5, hj3, ↓hrd, q6, ↓hwr, w64s (show i < 4611686018427387904 by omega)]
      rw [← q4]
      exact next_of (i + 1) (by omega) (by omega) (Nat.zero_le _) ⟨rfl, rfl, rfl, rfl, rfl, rfl, rfl, trivial⟩ rfl
    · have q4 := chUp_skip (n := n) (k := k) hlt hr
      simp -implicitDefEqProofs only [go_sem, ↓reduceIte, Nat.reduceEqDiff, Nat.reduceAdd, Nat.reduceLeDiff, List.getElem?_eq_getElem hlt, hr, w64s (show i < 4611686018427387904 by omega)]
      exact next_of (i + 1) (by omega) (by omega) (Nat.zero_le _) ⟨rfl, rfl, rfl, rfl, rfl, rfl, rfl, trivial⟩ (by simp only [q4])
  · simp -implicitDefEqProofs only [go_sem, ↓reduceIte, Nat.reduceEqDiff, Nat.reduceAdd, Nat.reduceLeDiff]
    have hin : i = l.length := by omega
    exact finK_list true (l := chUp l n place k l.length) (by rw [hin]; rfl) (chUp_len _ _ _ _ _).symm ⟨rfl, rfl⟩

theorem implChancesOf (b : Book) (team place : Int) (k : Nat) (hk : k < (openG b.games).length) : AFun Tryz.prog F.impl_chances [DV (vEnds (endsM b team)), DV (vInt team), DV (vInt place), DV (vInt k)] [] fun d m => d = DC (.sl 1 0 0 3) ∧ m = [.cells (cOf eInt (chAll b team place k))] := by
  have hrl := ranksAt_len b team
  have hel := endsM_len b team
  have hrank := endsM_rank b team
  have hlist := endsM_list b team
  refine AFun.intro k_impl_chances (by simp) ?_
  unfold c_impl_chances
  simp only [argE, Nat.reduceAdd]
  rw [chAll]
  generalize ranksAt b team = l at *
  generalize endsM b team = L at *
  generalize (openG b.games).length = n at *
  simp -implicitDefEqProofs only [go_sem, ↓reduceIte, Nat.reduceEqDiff, Nat.reduceAdd, Nat.reduceLeDiff, vEnds]
  refine ⟨by decide, by decide, by decide, by decide, ?_⟩
  refine loop_st (S := Nat) (fun i => [(1, DV (vInt team)), (2, DV (vInt place)), (3, DV (vInt k)), (9, DC (.sl 1 0 0 3)), (13, DV (vEnds L)), (14, DV (vInt L.length)), (15, DV (vInt i))]) (fun i => [.cells (cOf eInt (chUp l n place k i))]) (fun i => L.length - i) (fun i => i ≤ L.length) 0 (Nat.zero_le _)
    ⟨rfl, rfl, rfl, rfl, rfl, rfl, rfl, trivial⟩ rfl (Nat.zero_le _) ?_
  intro i hi
  have hcl := chUp_len l n place k i
  have hcle := chUp_le l n place k i
  simp -implicitDefEqProofs only [go_sem, ↓reduceIte, Nat.reduceEqDiff, Nat.reduceAdd, Nat.reduceLeDiff, vEnds, vInt]
  refine condA_dec (fun h => ?_) (fun h => ?_)
  · have hlt : i < l.length := by omega
    have hltL : i < L.length := by omega
    obtain ⟨k1, k2, k3, k4⟩ := hrank i hltL hlt
    have k5 : team < (L[i].2.length : Int) := by omega
    have k6 := hlist i hltL
    by_cases hr : l[i] ≤ place
    · obtain ⟨q1, j, q2, q3, q4⟩ := chUp_step (n := n) hk hlt hr
      have hjv := hcle _ (List.getElem_mem q3)
      have hj3 : (j : Int) < ((3 : Nat) : Int) := by omega
      have q5 : IntKind.i64.wrap ((outAt n i)[k] - 1) = (j : Int) := by rw [w64 (by omega) (by omega), q2]
      have q6 := w64 (x := (chUp l n place k i)[j] + 1) (by omega) (by omega)
      have q7 : (k : Int) < ((outAt n i).length : Int) := by omega
      have hrd := fun (B : Blk) => rdI (m := [.cells (cOf eInt (chUp l n place k i)), B]) (id := 0) rfl q3
      have hwr := fun (B : Blk) (x : Int) => wrI (m := [.cells (cOf eInt (chUp l n place k i)), B]) (id := 0) rfl q3 x
      simp -implicitDefEqProofs only [go_sem, ↓reduceIte, Nat.reduceEqDiff, Nat.reduceAdd, Nat.reduceLeDiff, List.getElem?_eq_getElem hltL, eEnd, vInts, k2, k5, List.getElem?_eq_getElem k1, k3, hr, k6, q7, List.getElem?_eq_getElem q1, q5, hj3, ↓hrd, q6, ↓hwr, w64s (show i < 4611686018427387904 by omega)]
      rw [← q4]
      exact next_drop (i + 1) _ (by omega) (by omega) (WfM.data fun x hx => by simp only [List.mem_cons, List.not_mem_nil, or_false] at hx; subst hx; exact cOf_data _ _) (Nat.zero_le _) ⟨rfl, rfl, rfl, rfl, rfl, rfl, rfl, trivial⟩ ⟨trivial, trivial, trivial, show 0 < 1 by omega, trivial, trivial, trivial, trivial⟩ rfl
    · have q4 := chUp_skip (n := n) (k := k) hlt hr
      simp -implicitDefEqProofs only [go_sem, ↓reduceIte, Nat.reduceEqDiff, Nat.reduceAdd, Nat.reduceLeDiff, List.getElem?_eq_getElem hltL, eEnd, vInts, k2, k5, List.getElem?_eq_getElem k1, k3, hr, w64s (show i < 4611686018427387904 by omega)]
      exact next_drop (i + 1) _ (by omega) (by omega) (WfM.data fun x hx => by simp only [List.mem_cons, List.not_mem_nil, or_false] at hx; subst hx; exact cOf_data _ _) (Nat.zero_le _) ⟨rfl, rfl, rfl, rfl, rfl, rfl, rfl, trivial⟩ ⟨trivial, trivial, trivial, show 0 < 1 by omega, trivial, trivial, trivial, trivial⟩ (by simp only [q4]; rfl)
  · simp -implicitDefEqProofs only [go_sem, ↓reduceIte, Nat.reduceEqDiff, Nat.reduceAdd, Nat.reduceLeDiff]
    have hin : i = l.length := by omega
    subst hin
    exact finK_refl (Nat.zero_le _) ⟨rfl, rfl⟩

theorem implChances (b : Book) (hf : Fits b) (hs : Small b) (team place game : Int) : AFun Tryz.prog F.impl_ChancesIf [dBook b, DV (vInt team), DV (vInt place), DV (vInt game)] [] fun d m => d = dList (chL b team place game) (chOk b team place game) ∧ m = [.cells (cOf eInt (chL b team place game))] := by
  have hrl := ranksAt_len b team
  have hel := endsM_len b team
  have hpl := @placeI_ge (openG b.games) game
  have hch := implChancesOf b team place (placeI (openG b.games) game).toNat
  have hcl := chUp_len (ranksAt b team) (openG b.games).length place (placeI (openG b.games) game).toNat (ranksAt b team).length
  rw [← chAll] at hcl
  refine AFun.intro k_impl_ChancesIf (by simp) ?_
  unfold c_impl_ChancesIf
  simp only [argE, Nat.reduceAdd]
  simp only [dBook, eBook_eq]
  simp -implicitDefEqProofs only [go_sem, ↓reduceIte, Nat.reduceEqDiff, Nat.reduceAdd, Nat.reduceLeDiff]
  refine (implEndingsD b hf hs team).callp (.vs (eBook b) (.v _ .nil)) ?_
  simp -implicitDefEqProofs only [go_sem, ↓reduceIte, Nat.reduceEqDiff, Nat.reduceAdd, Nat.reduceLeDiff]
  refine (implAt b hs game).callp (.vs (eBook b) (.v _ .nil)) ?_
  rw [chL, chOk]
  generalize ranksAt b team = l at *
  simp -implicitDefEqProofs only [go_sem, ↓reduceIte, Nat.reduceEqDiff, Nat.reduceAdd, Nat.reduceLeDiff, vEnds]
  by_cases h0 : 0 < l.length
  rotate_left
  · have h0' : ((endsM b team).length : Int) = 0 := by omega
    simp -implicitDefEqProofs only [go_sem, ↓reduceIte, Nat.reduceEqDiff, Nat.reduceAdd, Nat.reduceLeDiff, h0', Int.reduceEq]
    refine finK_nilT false ?_
    simp [h0]
  have h0' : ¬ ((endsM b team).length : Int) = 0 := by omega
  by_cases h1 : placeI (openG b.games) game < 0
  · simp -implicitDefEqProofs only [go_sem, ↓reduceIte, Nat.reduceEqDiff, Nat.reduceAdd, Nat.reduceLeDiff, h0', h1]
    refine finK_nilT false ?_
    have : ¬ 0 ≤ placeI (openG b.games) game := by omega
    simp [this]
  have hk : (placeI (openG b.games) game).toNat < (openG b.games).length := (hpl (by omega)).1
  have hok : (decide (0 < l.length) && decide (0 ≤ placeI (openG b.games) game)) = true := by simp [h0]; omega
  rw [hok, if_pos rfl]
  have hch := hch hk
  clear hpl
  have e : ((placeI (openG b.games) game).toNat : Int) = placeI (openG b.games) game := by omega
  rw [e] at hch
  simp -implicitDefEqProofs only [go_sem, ↓reduceIte, Nat.reduceEqDiff, Nat.reduceAdd, Nat.reduceLeDiff, h0', h1]
  refine hch.callp (.v _ (.v _ (.v _ (.v _ .nil)))) ?_
  rintro _ _ ⟨rfl, rfl⟩
  simp -implicitDefEqProofs only [go_sem, ↓reduceIte, Nat.reduceEqDiff, Nat.reduceAdd, Nat.reduceLeDiff, shD_sl, shB_cells, shC_cOf]
  exact finK_list true (l := chAll b team place (placeI (openG b.games) game).toNat) rfl hcl.symm ⟨rfl, rfl⟩

end Go.Proofs.YtmfmiobehjgeiaaGreat.Ab

namespace Go.Proofs.YtmfmiobehjgeiaaGreat.Ab
open Go

theorem chL_len (b : Book) (team place game : Int) : (chL b team place game).length ≤ 1048576 := by
  unfold chL; split
  · rw [chAll, chUp_len]; omega
  · simp

theorem lawChances (b : Book) (hf : Fits b) (team place game : Int) : AFun Tryz.prog F.laws_FnExactChancesIf [dBook b, DV (vInt team), DV (vInt place), DV (vInt game)] [] fun d _ => d = DV (.bool true) := by
  refine AFun.intro k_laws_FnExactChancesIf (by simp) ?_
  unfold c_laws_FnExactChancesIf
  simp only [argE, Nat.reduceAdd]
  simp only [dBook, eBook_eq]
  simp -implicitDefEqProofs only [go_sem, ↓reduceIte, Nat.reduceEqDiff, Nat.reduceAdd, Nat.reduceLeDiff]
  refine (szBook b 1048576 (by omega) (by omega) hf).callp (.vs (eBook b) (.v _ .nil)) ?_
  by_cases hz : (1048576 : Int) < szB b
  · rw [if_pos hz]
    simp -implicitDefEqProofs only [go_sem, ↓reduceIte, Nat.reduceEqDiff, Nat.reduceAdd, Nat.reduceLeDiff, Int.reduceLT]
    exact finK_v rfl
  rw [if_neg hz]
  have hs : Small b := Small.of (by omega)
  have hz' : ¬ (1048576 - (szB b : Int) < 0) := by omega
  have hmk := mk5_small hs
  have hL := chL_len b team place game
  simp -implicitDefEqProofs only [go_sem, ↓reduceIte, Nat.reduceEqDiff, Nat.reduceAdd, Nat.reduceLeDiff, hz']
  refine (toBook b hs).callp (.vs (eBook b) .nil) ?_
  rintro _ _ ⟨rfl, rfl⟩
  rw [shD_book, shB_book]
  simp -implicitDefEqProofs only [go_sem, ↓reduceIte, Nat.reduceEqDiff, Nat.reduceAdd, Nat.reduceLeDiff]
  have hspec : AFun Tryz.prog F.spec_ChancesIf [dBook b, DV (vInt team), DV (vInt place), DV (vInt game)] [] fun d m => d = dList (chL b team place game) (chOk b team place game) ∧ m = [.cells (cOf eInt (chL b team place game))] := specChances b hf hs team place game
  refine hspec.callb ⟨Vw.book (HasBook.tail [_] [] _), Vw.v _, Vw.v _, Vw.v _, trivial⟩ (fun d m' ⟨h1, h2⟩ => by subst h1; subst h2; exact ⟨rfl, by simp only [List.all_cons, List.all_nil, Bool.and_true]; exact noRo_cOf _ (fun _ => rfl) _⟩) ?_
  rintro _ _ ⟨rfl, rfl⟩
  have himpl : ∀ (m : List Blk) (K : D → List Blk → Prop) (i : Nat), HasBook m i b → (∀ d m', (d = dList (chL b team place game) (chOk b team place game) ∧ m' = [Blk.cells (cOf eInt (chL b team place game))]) → K (shD m.length d) (m ++ m'.map (shB m.length))) → AFunG Tryz.prog false F.impl_ChancesIf [dBookOwn b i, DV (vInt team), DV (vInt place), DV (vInt game)] m K := fun m K i hb hq => (implChances b hf hs team place game).callb ⟨Vw.book (i := i) hb, Vw.v _, Vw.v _, Vw.v _, trivial⟩ (fun d m' ⟨h1, h2⟩ => by subst h1; subst h2; exact ⟨rfl, by simp only [List.all_cons, List.all_nil, Bool.and_true]; exact noRo_cOf _ (fun _ => rfl) _⟩) hq
  generalize chL b team place game = l at *
  generalize chOk b team place game = ok at *
  rw [shD_list]
  simp -implicitDefEqProofs only [go_sem, ↓reduceIte, Nat.reduceEqDiff, Nat.reduceAdd, Nat.reduceLeDiff, memBook, dBookOwn, shB_cells, shC_cOf]
  refine (toBook b hs).callp (.vs (eBook b) .nil) ?_
  rintro _ _ ⟨rfl, rfl⟩
  rw [shD_book, shB_book]
  simp -implicitDefEqProofs only [go_sem, ↓reduceIte, Nat.reduceEqDiff, Nat.reduceAdd, Nat.reduceLeDiff, memBook, dBookOwn]
  refine himpl _ _ 7 (HasBook.of rfl rfl rfl rfl rfl) ?_
  rintro _ _ ⟨rfl, rfl⟩
  rw [shD_list]
  simp -implicitDefEqProofs only [go_sem, ↓reduceIte, Nat.reduceEqDiff, Nat.reduceAdd, Nat.reduceLeDiff, shB_cells, shC_cOf]
  refine (eqIntS l l (by omega)).call (br := true) ⟨Vw.ints (l := l) rfl rfl, Vw.ints (l := l) rfl rfl, trivial⟩ (fun _ => rfl) ?_
  simp -implicitDefEqProofs only [go_sem, ↓reduceIte, Nat.reduceEqDiff, Nat.reduceAdd, Nat.reduceLeDiff, decide_true, beq_self_eq_true, bne_self_eq_false]
  refine (toBook b hs).callp (.vs (eBook b) .nil) ?_
  rintro _ _ ⟨rfl, rfl⟩
  rw [shD_book, shB_book]
  simp -implicitDefEqProofs only [go_sem, ↓reduceIte, Nat.reduceEqDiff, Nat.reduceAdd, Nat.reduceLeDiff, memBook, dBookOwn]
  refine (eqBook b b hf.field hf.ladder hf.games hf.fair hf.taken).call (br := true) ⟨Vw.book (i := 7) (HasBook.of rfl rfl rfl rfl rfl), Vw.book (i := 14) (HasBook.of rfl rfl rfl rfl rfl), trivial⟩ (fun _ => rfl) ?_
  simp -implicitDefEqProofs only [go_sem, ↓reduceIte, Nat.reduceEqDiff, Nat.reduceAdd, Nat.reduceLeDiff, decide_true]
  refine handMark (b := b) (i := 7) (k := 1) (HasBook.of rfl rfl rfl rfl rfl) (by omega) hmk ?_
  have hnn : ¬ (((mk5 b 1 : Nat) : Int) < 0) := by omega
  simp -implicitDefEqProofs only [go_sem, ↓reduceIte, Nat.reduceEqDiff, Nat.reduceAdd, Nat.reduceLeDiff, memBook, setB, hnn]
  refine (eqIntS l l (by omega)).call (br := true) ⟨Vw.ints (l := l) rfl rfl, Vw.ints (l := l) rfl rfl, trivial⟩ (fun _ => rfl) ?_
  simp -implicitDefEqProofs only [go_sem, ↓reduceIte, Nat.reduceEqDiff, Nat.reduceAdd, Nat.reduceLeDiff, decide_true, beq_self_eq_true, bne_self_eq_false]
  refine hand1 (markIntS l 1 (by omega)) rfl (.v _ .nil) ?_
  rintro _ _ ⟨rfl, rfl⟩
  refine ⟨_, _, rfl, rfl, ?_⟩
  have hml : (marksI 1 l.length).length = l.length := by simp [marksI]
  have hheld := heldIntS (marksI 1 l.length) 1 (by omega)
  rw [hml, if_pos rfl] at hheld
  have hq0 : ¬ (((1 + l.length : Nat) : Int) < 0) := by omega
  simp -implicitDefEqProofs only [go_sem, ↓reduceIte, Nat.reduceEqDiff, Nat.reduceAdd, Nat.reduceLeDiff, vInt]
  refine hheld.call (br := true) ⟨Vw.ints (l := marksI 1 l.length) rfl hml.symm, Vw.v _, trivial⟩ (fun _ => rfl) ?_
  simp -implicitDefEqProofs only [go_sem, ↓reduceIte, Nat.reduceEqDiff, Nat.reduceAdd, Nat.reduceLeDiff, vInt, hq0, bne_self_eq_false]
  refine (toBook b hs).callp (.vs (eBook b) .nil) ?_
  rintro _ _ ⟨rfl, rfl⟩
  rw [shD_book, shB_book]
  simp -implicitDefEqProofs only [go_sem, ↓reduceIte, Nat.reduceEqDiff, Nat.reduceAdd, Nat.reduceLeDiff, memBook, dBookOwn]
  refine himpl _ _ 19 (HasBook.of rfl rfl rfl rfl rfl) ?_
  rintro _ _ ⟨rfl, rfl⟩
  rw [shD_list]
  simp -implicitDefEqProofs only [go_sem, ↓reduceIte, Nat.reduceEqDiff, Nat.reduceAdd, Nat.reduceLeDiff, shB_cells, shC_cOf]
  refine (eqIntS l l (by omega)).call (br := true) ⟨Vw.ints (l := l) rfl rfl, Vw.ints (l := l) rfl rfl, trivial⟩ (fun _ => rfl) ?_
  simp -implicitDefEqProofs only [go_sem, ↓reduceIte, Nat.reduceEqDiff, Nat.reduceAdd, Nat.reduceLeDiff, decide_true, beq_self_eq_true, bne_self_eq_false]
  refine hheld.call (br := true) ⟨Vw.ints (l := marksI 1 l.length) rfl hml.symm, Vw.v _, trivial⟩ (fun _ => rfl) ?_
  simp -implicitDefEqProofs only [go_sem, ↓reduceIte, Nat.reduceEqDiff, Nat.reduceAdd, Nat.reduceLeDiff, vInt, hq0, bne_self_eq_false]
  exact finK_v rfl

end Go.Proofs.YtmfmiobehjgeiaaGreat.Ab

namespace Go.Proofs.YtmfmiobehjgeiaaGreat.Ab
open Go

def mx2 (a b : Int) : Int := if b > a then b else a
def mn2 (a b : Int) : Int := if b < a then b else a
def maxI (l : List Int) : Nat → Int
  | 0 => l.getD 0 0
  | i + 1 => if i = 0 then l.getD 0 0 else mx2 (maxI l i) (l.getD i 0)
def minI (l : List Int) : Nat → Int
  | 0 => l.getD 0 0
  | i + 1 => if i = 0 then l.getD 0 0 else mn2 (minI l i) (l.getD i 0)

theorem maxInt (l : List Int) (h0 : 0 < l.length) (hl : l.length < 4611686018427387904) : AFunD Tryz.prog F.slices_Max_int [DV (vInts l)] (DV (vInt (maxI l l.length))) := by
  have h1 : ¬ ((l.length : Int) < 1) := by omega
  have h2 : (0 : Int) < l.length := by omega
  refine AFunD.intro k_slices_Max_int (by simp) ?pure ?_
  case pure => first | exact D.pure_v _ | exact D.pure_vs _
  unfold c_slices_Max_int
  simp only [argE, Nat.reduceAdd]
  simp -implicitDefEqProofs only [go_sem, ↓reduceIte, Nat.reduceEqDiff, Nat.reduceAdd, Nat.reduceLeDiff, vInts, h1, h2, Int.le_refl, (show Int.toNat 0 = 0 from rfl), List.getElem?_eq_getElem h0]
  refine loop_st (S := Nat) (fun i => [(0, DV (vInts l)), (3, DV (vInt (maxI l i))), (4, DV (vInt i))]) (fun _ => []) (fun i => l.length - i) (fun i => 1 ≤ i ∧ i ≤ l.length) 1 (Nat.zero_le _)
    ⟨rfl, by simp [get, maxI, h0], rfl, trivial⟩ rfl ⟨Nat.le_refl _, h0⟩ ?_
  rintro i ⟨hi1, hi⟩
  simp -implicitDefEqProofs only [go_sem, ↓reduceIte, Nat.reduceEqDiff, Nat.reduceAdd, Nat.reduceLeDiff, vInts, vInt]
  refine condA_dec (fun h => ?_) (fun h => ?_)
  · have hlt : i < l.length := by omega
    have e1 : maxI l (i + 1) = mx2 (maxI l i) l[i] := by rw [maxI, if_neg (by omega), getD_of hlt]
    have hlt' : (i : Int) < l.length := by omega
    simp -implicitDefEqProofs only [go_sem, ↓reduceIte, Nat.reduceEqDiff, Nat.reduceAdd, Nat.reduceLeDiff, List.getElem?_eq_getElem hlt, hlt', w64s (show i < 4611686018427387904 by omega)]
    exact next_of (i + 1) (by omega) ⟨by omega, by omega⟩ (Nat.zero_le _) ⟨rfl, by rw [e1]; rfl, rfl, trivial⟩ rfl
  · simp -implicitDefEqProofs only [go_sem, ↓reduceIte, Nat.reduceEqDiff, Nat.reduceAdd, Nat.reduceLeDiff]
    have hin : i = l.length := by omega
    exact finK_v ⟨by rw [hin], rfl⟩

theorem minInt (l : List Int) (h0 : 0 < l.length) (hl : l.length < 4611686018427387904) : AFunD Tryz.prog F.slices_Min_int [DV (vInts l)] (DV (vInt (minI l l.length))) := by
  have h1 : ¬ ((l.length : Int) < 1) := by omega
  have h2 : (0 : Int) < l.length := by omega
  refine AFunD.intro k_slices_Min_int (by simp) ?pure ?_
  case pure => first | exact D.pure_v _ | exact D.pure_vs _
  unfold c_slices_Min_int
  simp only [argE, Nat.reduceAdd]
  simp -implicitDefEqProofs only [go_sem, ↓reduceIte, Nat.reduceEqDiff, Nat.reduceAdd, Nat.reduceLeDiff, vInts, h1, h2, Int.le_refl, (show Int.toNat 0 = 0 from rfl), List.getElem?_eq_getElem h0]
  refine loop_st (S := Nat) (fun i => [(0, DV (vInts l)), (3, DV (vInt (minI l i))), (4, DV (vInt i))]) (fun _ => []) (fun i => l.length - i) (fun i => 1 ≤ i ∧ i ≤ l.length) 1 (Nat.zero_le _)
    ⟨rfl, by simp [get, minI, h0], rfl, trivial⟩ rfl ⟨Nat.le_refl _, h0⟩ ?_
  rintro i ⟨hi1, hi⟩
  simp -implicitDefEqProofs only [go_sem, ↓reduceIte, Nat.reduceEqDiff, Nat.reduceAdd, Nat.reduceLeDiff, vInts, vInt]
  refine condA_dec (fun h => ?_) (fun h => ?_)
  · have hlt : i < l.length := by omega
    have e1 : minI l (i + 1) = mn2 (minI l i) l[i] := by rw [minI, if_neg (by omega), getD_of hlt]
    have hlt' : (i : Int) < l.length := by omega
    simp -implicitDefEqProofs only [go_sem, ↓reduceIte, Nat.reduceEqDiff, Nat.reduceAdd, Nat.reduceLeDiff, List.getElem?_eq_getElem hlt, hlt', w64s (show i < 4611686018427387904 by omega)]
    exact next_of (i + 1) (by omega) ⟨by omega, by omega⟩ (Nat.zero_le _) ⟨rfl, by rw [e1]; rfl, rfl, trivial⟩ rfl
  · simp -implicitDefEqProofs only [go_sem, ↓reduceIte, Nat.reduceEqDiff, Nat.reduceAdd, Nat.reduceLeDiff]
    have hin : i = l.length := by omega
    exact finK_v ⟨by rw [hin], rfl⟩

/-- How far three numbers lie apart. -/
def wOf (l : List Int) : Int := mx2 (l.getD 0 0) (mx2 (l.getD 1 0) (l.getD 2 0)) - mn2 (l.getD 0 0) (mn2 (l.getD 1 0) (l.getD 2 0))
theorem wOf_eq (l : List Int) (h : l.length = 3) : maxI l l.length - minI l l.length = wOf l := by
  rw [h]
  simp only [maxI, minI, wOf, mx2, mn2, if_true]
  simp only [show ¬ (1 + 1 = 0) by omega, show ¬ (1 = 0) by omega, if_false]
  repeat' split
  all_goals omega

def weightM (b : Book) (team place game : Int) : Int := if chOk b team place game = true then wOf (chL b team place game) else 0

theorem chL_spec {b : Book} {team place game : Int} (h : chOk b team place game = true) : (chL b team place game).length = 3 ∧ ∀ x ∈ chL b team place game, 0 ≤ x ∧ x ≤ 243 := by
  rw [chL, if_pos h, chAll]
  have h1 := ranksAt_len b team
  exact ⟨chUp_len _ _ _ _ _, fun x hx => by have := chUp_le _ _ _ _ _ x hx; omega⟩

theorem wOf_small {l : List Int} (h : l.length = 3) (hx : ∀ x ∈ l, 0 ≤ x ∧ x ≤ 243) : 0 ≤ wOf l ∧ wOf l ≤ 243 := by
  match l, h with
  | [a, b, c], _ =>
    have ha := hx a (by simp); have hb := hx b (by simp); have hc := hx c (by simp)
    simp only [wOf, mx2, mn2, List.getD_cons_zero, List.getD_cons_succ]
    constructor <;> (repeat' split) <;> omega

theorem specWeight (b : Book) (hf : Fits b) (hs : Small b) (team place game : Int) : AFunD Tryz.prog F.spec_WeightOf [dBook b, DV (vInt team), DV (vInt place), DV (vInt game)] (DV (vInt (weightM b team place game))) := by
  have hsp := chL_spec (b := b) (team := team) (place := place) (game := game)
  refine AFunD.intro k_spec_WeightOf (by simp) ?pure ?_
  case pure => first | exact D.pure_v _ | exact D.pure_vs _
  unfold c_spec_WeightOf
  simp only [argE, Nat.reduceAdd]
  simp only [dBook, eBook_eq]
  simp -implicitDefEqProofs only [go_sem, ↓reduceIte, Nat.reduceEqDiff, Nat.reduceAdd, Nat.reduceLeDiff]
  refine (specChances b hf hs team place game).callp (.vs (eBook b) (.v _ (.v _ (.v _ .nil)))) ?_
  rintro _ _ ⟨rfl, rfl⟩
  rw [shD_list, weightM]
  generalize chL b team place game = l at *
  generalize chOk b team place game = ok at *
  cases ok
  · simp -implicitDefEqProofs only [go_sem, ↓reduceIte, Nat.reduceEqDiff, Nat.reduceAdd, Nat.reduceLeDiff]
    exact finK_v ⟨rfl, rfl⟩
  obtain ⟨h3, hx⟩ := hsp rfl
  have hw := wOf_small h3 hx
  match l, h3 with
  | [x, y, z], _ =>
    have e : cOf eInt [x, y, z] = [C.v (.int .i64 x), C.v (.int .i64 y), C.v (.int .i64 z)] := rfl
    have hw1 := w64 (x := wOf [x, y, z]) (by omega) (by omega)
    have r0 : ∀ B : Blk, rdm [B, .cells [C.v (.int .i64 x), C.v (.int .i64 y), C.v (.int .i64 z)]] 1 (0 + Int.toNat 0 * 1) 1 = some [.v (.int .i64 x)] := fun _ => rfl
    have r1 : ∀ B : Blk, rdm [B, .cells [C.v (.int .i64 x), C.v (.int .i64 y), C.v (.int .i64 z)]] 1 (0 + Int.toNat 1 * 1) 1 = some [.v (.int .i64 y)] := fun _ => rfl
    have r2 : ∀ B : Blk, rdm [B, .cells [C.v (.int .i64 x), C.v (.int .i64 y), C.v (.int .i64 z)]] 1 (0 + Int.toNat 2 * 1) 1 = some [.v (.int .i64 z)] := fun _ => rfl
    simp -implicitDefEqProofs only [go_sem, ↓reduceIte, Nat.reduceEqDiff, Nat.reduceAdd, Nat.reduceLeDiff, shB_cells, shC_cOf, e, Int.le_refl, (show (0 : Int) < ((3 : Nat) : Int) by decide), (show (1 : Int) < ((3 : Nat) : Int) by decide), (show (2 : Int) < ((3 : Nat) : Int) by decide), (show (0 : Int) ≤ 1 by decide), (show (0 : Int) ≤ 2 by decide), ↓r0, ↓r1, ↓r2]
    refine finK_v ⟨?_, rfl⟩
    exact congrArg (fun n => DV (vInt n)) hw1

theorem implWeight (b : Book) (hf : Fits b) (hs : Small b) (team place game : Int) : AFunD Tryz.prog F.impl_WeightOf [dBook b, DV (vInt team), DV (vInt place), DV (vInt game)] (DV (vInt (weightM b team place game))) := by
  have hsp := chL_spec (b := b) (team := team) (place := place) (game := game)
  refine AFunD.intro k_impl_WeightOf (by simp) ?pure ?_
  case pure => first | exact D.pure_v _ | exact D.pure_vs _
  unfold c_impl_WeightOf
  simp only [argE, Nat.reduceAdd]
  simp only [dBook, eBook_eq]
  simp -implicitDefEqProofs only [go_sem, ↓reduceIte, Nat.reduceEqDiff, Nat.reduceAdd, Nat.reduceLeDiff]
  refine (implChances b hf hs team place game).callp (.vs (eBook b) (.v _ (.v _ (.v _ .nil)))) ?_
  rintro _ _ ⟨rfl, rfl⟩
  rw [shD_list, weightM]
  generalize chL b team place game = l at *
  generalize chOk b team place game = ok at *
  cases ok
  · simp -implicitDefEqProofs only [go_sem, ↓reduceIte, Nat.reduceEqDiff, Nat.reduceAdd, Nat.reduceLeDiff]
    exact finK_v ⟨rfl, rfl⟩
  obtain ⟨h3, hx⟩ := hsp rfl
  have hw := wOf_small h3 hx
  have hw1 := w64 (x := wOf l) (by omega) (by omega)
  rw [← wOf_eq l h3] at hw1
  simp -implicitDefEqProofs only [go_sem, ↓reduceIte, Nat.reduceEqDiff, Nat.reduceAdd, Nat.reduceLeDiff, shB_cells, shC_cOf]
  refine (maxInt l (by omega) (by omega)).call (br := true) ⟨Vw.ints (l := l) rfl rfl, trivial⟩ (fun _ => rfl) ?_
  simp -implicitDefEqProofs only [go_sem, ↓reduceIte, Nat.reduceEqDiff, Nat.reduceAdd, Nat.reduceLeDiff]
  refine (minInt l (by omega) (by omega)).call (br := true) ⟨Vw.ints (l := l) rfl rfl, trivial⟩ (fun _ => rfl) ?_
  simp -implicitDefEqProofs only [go_sem, ↓reduceIte, Nat.reduceEqDiff, Nat.reduceAdd, Nat.reduceLeDiff, vInt, hw1]
  exact finK_v ⟨by rw [wOf_eq l h3], rfl⟩

theorem openUp_sorted (games : List Game) : ∀ i, (openUp games i).Pairwise (· < ·)
  | 0 => .nil
  | i + 1 => by
    rw [openUp, List.pairwise_append]
    refine ⟨openUp_sorted games i, ?_, fun a ha b hb => ?_⟩
    · split <;> simp
    · split at hb
      · simp only [List.mem_singleton] at hb; subst hb
        exact (openUp_mem games i a ha).2.1
      · simp at hb
theorem place_open {games : List Game} {j : Nat} (hj : j < (openG games).length) : placeI (openG games) (openG games)[j] = (j : Int) := by
  refine firstI_some hj (by simp [hj]) (List.any_eq_false.2 fun i hi => ?_)
  have hij := List.mem_range.1 hi
  have := List.pairwise_iff_getElem.1 (openUp_sorted games games.length) i j (by show i < (openG games).length; omega) hj hij
  change (openG games)[i] < (openG games)[j] at this
  rw [List.getElem?_eq_getElem (by omega)]
  simp only [beq_iff_eq, Option.some.injEq]
  omega

def hvUp (b : Book) (team place : Int) : Nat → Int × Int
  | 0 => (-1, -1)
  | i + 1 => if (hvUp b team place i).2 < wOf (chAll b team place i) then ((openG b.games).getD i 0, wOf (chAll b team place i)) else hvUp b team place i
def heaviestM (b : Book) (team place : Int) : Int := if 0 < (ranksAt b team).length then (hvUp b team place (openG b.games).length).1 else -1

theorem wAll_small (b : Book) (team place : Int) (k : Nat) : 0 ≤ wOf (chAll b team place k) ∧ wOf (chAll b team place k) ≤ 243 := by
  have h1 := ranksAt_len b team
  exact wOf_small (chUp_len _ _ _ _ _) fun x hx => by have := chUp_le _ _ _ _ _ x hx; omega

theorem hvUp_spec (b : Book) (team place : Int) : ∀ i, i ≤ (openG b.games).length → (i = 0 ∧ hvUp b team place i = (-1, -1)) ∨ ∃ j, j < i ∧ ∃ h : j < (openG b.games).length, hvUp b team place i = ((openG b.games)[j], wOf (chAll b team place j))
  | 0, _ => .inl ⟨rfl, rfl⟩
  | i + 1, hi => by
    right
    rw [hvUp]
    split
    · exact ⟨i, by omega, by omega, by rw [getD_of (show i < (openG b.games).length by omega)]⟩
    · rename_i hn
      rcases hvUp_spec b team place i (by omega) with ⟨h1, h2⟩ | ⟨j, h1, h2, h3⟩
      · rw [h2] at hn
        have := wAll_small b team place i
        simp only at hn; omega
      · exact ⟨j, by omega, h2, h3⟩

theorem weight_open {b : Book} {team place : Int} {j : Nat} (h0 : 0 < (ranksAt b team).length) (hj : j < (openG b.games).length) : weightM b team place (openG b.games)[j] = wOf (chAll b team place j) := by
  have hp := place_open hj
  have hok : chOk b team place (openG b.games)[j] = true := by rw [chOk, hp]; simp [h0]
  rw [weightM, if_pos hok, chL, if_pos hok, hp]; rfl

theorem specHeaviest (b : Book) (hf : Fits b) (hs : Small b) (team place : Int) : AFunD Tryz.prog F.spec_HeaviestGame [dBook b, DV (vInt team), DV (vInt place)] (DV (vInt (heaviestM b team place))) := by
  have hol := openG_len b.games
  have hg := hs.games
  have hn := hs.field
  refine AFunD.intro k_spec_HeaviestGame (by simp) ?pure ?_
  case pure => first | exact D.pure_v _ | exact D.pure_vs _
  unfold c_spec_HeaviestGame
  simp only [argE, Nat.reduceAdd]
  simp only [dBook, eBook_eq]
  simp -implicitDefEqProofs only [go_sem, ↓reduceIte, Nat.reduceEqDiff, Nat.reduceAdd, Nat.reduceLeDiff]
  refine (specCount b hf hg).callp (.vs (eBook b) .nil) ?_
  have bad : ¬ (short b = true ∧ inB team 0 (b.field.length - 1) = true) → heaviestM b team place = -1 := fun h => by
    have : ranksAt b team = [] := if_neg h
    rw [heaviestM, this]; rfl
  by_cases hsh : short b = true
  rotate_left
  · have hc : countM b = 0 := if_neg hsh
    simp -implicitDefEqProofs only [go_sem, ↓reduceIte, Nat.reduceEqDiff, Nat.reduceAdd, Nat.reduceLeDiff, vInt, hc, (show ((0 : Nat) : Int) = 0 from rfl)]
    exact finK_v ⟨by rw [bad (fun h => hsh h.1)], rfl⟩
  have hc : countM b = 3 ^ (openG b.games).length := if_pos hsh
  have hc0 : ¬ ((countM b : Nat) : Int) = 0 := by
    have : 0 < 3 ^ (openG b.games).length := Nat.pow_pos (by omega)
    rw [hc]; omega
  simp -implicitDefEqProofs only [go_sem, ↓reduceIte, Nat.reduceEqDiff, Nat.reduceAdd, Nat.reduceLeDiff, vInt, hc0, vTeams, w64 (x := (b.field.length : Int) - 1) (by omega) (by omega)]
  refine (l01In team 0 (b.field.length - 1)).callp (.v _ (.v _ (.v _ .nil))) ?_
  cases hte : inB team 0 (b.field.length - 1)
  · simp -implicitDefEqProofs only [go_sem, ↓reduceIte, Nat.reduceEqDiff, Nat.reduceAdd, Nat.reduceLeDiff]
    exact finK_v ⟨by rw [bad (by simp [hte])], rfl⟩
  have h0 : 0 < (ranksAt b team).length := by
    have : ranksAt b team = (List.range (countM b)).map fun i => rankOfM (playedM b (outAt (openG b.games).length i)) team := if_pos ⟨hsh, hte⟩
    rw [this]; simp; omega
  have hres : heaviestM b team place = (hvUp b team place (openG b.games).length).1 := if_pos h0
  rw [hres]
  have hwo := fun j (hj : j < (openG b.games).length) => weight_open (b := b) (team := team) (place := place) (j := j) h0 hj
  have hsp := hvUp_spec b team place
  simp -implicitDefEqProofs only [go_sem, ↓reduceIte, Nat.reduceEqDiff, Nat.reduceAdd, Nat.reduceLeDiff]
  refine (specOpenD b.games hg).callp (.v _ .nil) ?_
  simp -implicitDefEqProofs only [go_sem, ↓reduceIte, Nat.reduceEqDiff, Nat.reduceAdd, Nat.reduceLeDiff, vInts]
  refine loop_st (S := Nat) (fun i => [(3, DC (.ptr 0 0)), (1, DV (vInt team)), (2, DV (vInt place)), (7, DV (vInt (hvUp b team place i).1)), (24, DV (vInts (openG b.games))), (25, DV (vInt (openG b.games).length)), (26, DV (vInt i))]) (fun i => [.cells ((eBook b).map .v)]) (fun i => (openG b.games).length - i) (fun i => i ≤ (openG b.games).length) 0 (Nat.zero_le _)
    ⟨rfl, rfl, rfl, rfl, rfl, rfl, rfl, trivial⟩ rfl (Nat.zero_le _) ?_
  intro i hi
  simp only [eBook_eq]
  simp -implicitDefEqProofs only [go_sem, ↓reduceIte, Nat.reduceEqDiff, Nat.reduceAdd, Nat.reduceLeDiff, vInts, vInt]
  refine condA_dec (fun h => ?_) (fun h => ?_)
  · have hlt : i < (openG b.games).length := by omega
    have hws := wAll_small b team place i
    rcases hsp i (by omega) with ⟨h1, h2⟩ | ⟨j, h1, h2, h3⟩
    · have hneg : (hvUp b team place i).1 < 0 := by rw [h2]; decide
      have e1 : (hvUp b team place (i + 1)).1 = (openG b.games)[i] := by rw [hvUp, h2, if_pos (by simp only; omega), getD_of hlt]
      simp -implicitDefEqProofs only [go_sem, ↓reduceIte, Nat.reduceEqDiff, Nat.reduceAdd, Nat.reduceLeDiff, List.getElem?_eq_getElem hlt, hneg, w64s (show i < 4611686018427387904 by omega)]
      exact next_of (i + 1) (by omega) (by omega) (Nat.zero_le _) ⟨rfl, rfl, rfl, by rw [e1]; rfl, rfl, rfl, rfl, trivial⟩ rfl
    · have hj0 := (openG_mem (List.getElem_mem h2)).1
      have hneg : ¬ (openG b.games)[j] < 0 := by omega
      rw [h3]
      simp -implicitDefEqProofs only [go_sem, ↓reduceIte, Nat.reduceEqDiff, Nat.reduceAdd, Nat.reduceLeDiff, List.getElem?_eq_getElem hlt, hneg]
      refine (specWeight b hf hs team place (openG b.games)[i]).callp (.vs (eBook b) (.v _ (.v _ (.v _ .nil)))) ?_
      simp -implicitDefEqProofs only [go_sem, ↓reduceIte, Nat.reduceEqDiff, Nat.reduceAdd, Nat.reduceLeDiff]
      refine (specWeight b hf hs team place (openG b.games)[j]).callp (.vs (eBook b) (.v _ (.v _ (.v _ .nil)))) ?_
      rw [hwo i hlt, hwo j h2]
      by_cases hc : wOf (chAll b team place j) < wOf (chAll b team place i)
      · have e1 : (hvUp b team place (i + 1)).1 = (openG b.games)[i] := by rw [hvUp, h3, if_pos hc, getD_of hlt]
        simp -implicitDefEqProofs only [go_sem, ↓reduceIte, Nat.reduceEqDiff, Nat.reduceAdd, Nat.reduceLeDiff, vInt, gt_iff_lt, hc, w64s (show i < 4611686018427387904 by omega)]
        exact next_of (i + 1) (by omega) (by omega) (Nat.zero_le _) ⟨rfl, rfl, rfl, by rw [e1]; rfl, rfl, rfl, rfl, trivial⟩ rfl
      · have e1 : (hvUp b team place (i + 1)).1 = (openG b.games)[j] := by rw [hvUp, h3, if_neg hc]
        simp -implicitDefEqProofs only [go_sem, ↓reduceIte, Nat.reduceEqDiff, Nat.reduceAdd, Nat.reduceLeDiff, vInt, gt_iff_lt, hc, w64s (show i < 4611686018427387904 by omega)]
        exact next_of (i + 1) (by omega) (by omega) (Nat.zero_le _) ⟨rfl, rfl, rfl, by rw [e1]; rfl, rfl, rfl, rfl, trivial⟩ rfl
  · simp -implicitDefEqProofs only [go_sem, ↓reduceIte, Nat.reduceEqDiff, Nat.reduceAdd, Nat.reduceLeDiff]
    have hin : i = (openG b.games).length := by omega
    exact finK_v ⟨by rw [hin], rfl⟩

theorem implHeaviest (b : Book) (hf : Fits b) (hs : Small b) (team place : Int) : AFunD Tryz.prog F.impl_HeaviestGame [dBook b, DV (vInt team), DV (vInt place)] (DV (vInt (heaviestM b team place))) := by
  have hol := openG_len b.games
  have hg := hs.games
  have hel := endsM_len b team
  refine AFunD.intro k_impl_HeaviestGame (by simp) ?pure ?_
  case pure => first | exact D.pure_v _ | exact D.pure_vs _
  unfold c_impl_HeaviestGame
  simp only [argE, Nat.reduceAdd]
  simp only [dBook, eBook_eq]
  simp -implicitDefEqProofs only [go_sem, ↓reduceIte, Nat.reduceEqDiff, Nat.reduceAdd, Nat.reduceLeDiff]
  refine (implEndingsD b hf hs team).callp (.vs (eBook b) (.v _ .nil)) ?_
  simp -implicitDefEqProofs only [go_sem, ↓reduceIte, Nat.reduceEqDiff, Nat.reduceAdd, Nat.reduceLeDiff, vEnds]
  rw [heaviestM]
  by_cases h0 : 0 < (ranksAt b team).length
  rotate_left
  · have h0' : ((endsM b team).length : Int) = 0 := by omega
    simp -implicitDefEqProofs only [go_sem, ↓reduceIte, Nat.reduceEqDiff, Nat.reduceAdd, Nat.reduceLeDiff, h0']
    exact finK_v ⟨by rw [if_neg h0], rfl⟩
  have h0' : ¬ ((endsM b team).length : Int) = 0 := by omega
  rw [if_pos h0]
  simp -implicitDefEqProofs only [go_sem, ↓reduceIte, Nat.reduceEqDiff, Nat.reduceAdd, Nat.reduceLeDiff, h0']
  refine (implOpenD b.games hg).callp (.v _ .nil) ?_
  simp -implicitDefEqProofs only [go_sem, ↓reduceIte, Nat.reduceEqDiff, Nat.reduceAdd, Nat.reduceLeDiff, vInts]
  refine loop_st (S := Nat) (fun i => [(1, DV (vInt team)), (2, DV (vInt place)), (7, DV (vEnds (endsM b team))), (8, DV (vInt (hvUp b team place i).1)), (9, DV (vInt (hvUp b team place i).2)), (22, DV (vInts (openG b.games))), (23, DV (vInt (openG b.games).length)), (24, DV (vInt i))]) (fun i => [.cells ((eBook b).map .v)]) (fun i => (openG b.games).length - i) (fun i => i ≤ (openG b.games).length) 0 (Nat.zero_le _)
    ⟨rfl, rfl, rfl, rfl, rfl, rfl, rfl, rfl, trivial⟩ rfl (Nat.zero_le _) ?_
  intro i hi
  simp only [eBook_eq]
  simp -implicitDefEqProofs only [go_sem, ↓reduceIte, Nat.reduceEqDiff, Nat.reduceAdd, Nat.reduceLeDiff, vInts, vInt]
  refine condA_dec (fun h => ?_) (fun h => ?_)
  · have hlt : i < (openG b.games).length := by omega
    have hws := wAll_small b team place i
    have h3 : (chAll b team place i).length = 3 := chUp_len _ _ _ _ _
    have hw1 := w64 (x := wOf (chAll b team place i)) (by omega) (by omega)
    have hwf : WfM [Blk.cells ((eBook b).map C.v)] := WfM.data fun x hx => by simp only [List.mem_cons, List.not_mem_nil, or_false] at hx; subst hx; exact ⟨eBook b, rfl⟩
    simp -implicitDefEqProofs only [go_sem, ↓reduceIte, Nat.reduceEqDiff, Nat.reduceAdd, Nat.reduceLeDiff, List.getElem?_eq_getElem hlt]
    refine (implChancesOf b team place i hlt).callp (.v _ (.v _ (.v _ (.v _ .nil)))) ?_
    rintro _ _ ⟨rfl, rfl⟩
    simp -implicitDefEqProofs only [go_sem, ↓reduceIte, Nat.reduceEqDiff, Nat.reduceAdd, Nat.reduceLeDiff, shD_sl, shB_cells, shC_cOf]
    refine (maxInt (chAll b team place i) (by omega) (by omega)).call (br := true) ⟨Vw.ints (l := chAll b team place i) rfl h3.symm, trivial⟩ (fun _ => rfl) ?_
    simp -implicitDefEqProofs only [go_sem, ↓reduceIte, Nat.reduceEqDiff, Nat.reduceAdd, Nat.reduceLeDiff]
    refine (minInt (chAll b team place i) (by omega) (by omega)).call (br := true) ⟨Vw.ints (l := chAll b team place i) rfl h3.symm, trivial⟩ (fun _ => rfl) ?_
    by_cases hc : (hvUp b team place i).2 < wOf (chAll b team place i)
    · have e1 : hvUp b team place (i + 1) = ((openG b.games)[i], wOf (chAll b team place i)) := by rw [hvUp, if_pos hc, getD_of hlt]
      simp -implicitDefEqProofs only [go_sem, ↓reduceIte, Nat.reduceEqDiff, Nat.reduceAdd, Nat.reduceLeDiff, vInt, wOf_eq _ h3, hw1, gt_iff_lt, hc, w64s (show i < 4611686018427387904 by omega)]
      exact next_drop (i + 1) _ (by omega) (by omega) hwf (Nat.zero_le _) ⟨rfl, rfl, rfl, by rw [e1]; rfl, by rw [e1]; rfl, rfl, rfl, rfl, trivial⟩ ⟨trivial, trivial, trivial, trivial, trivial, trivial, trivial, trivial, trivial⟩ rfl
    · have e1 : hvUp b team place (i + 1) = hvUp b team place i := by rw [hvUp, if_neg hc]
      simp -implicitDefEqProofs only [go_sem, ↓reduceIte, Nat.reduceEqDiff, Nat.reduceAdd, Nat.reduceLeDiff, vInt, wOf_eq _ h3, hw1, gt_iff_lt, hc, w64s (show i < 4611686018427387904 by omega)]
      exact next_drop (i + 1) _ (by omega) (by omega) hwf (Nat.zero_le _) ⟨rfl, rfl, rfl, by rw [e1]; rfl, by rw [e1]; rfl, rfl, rfl, rfl, trivial⟩ ⟨trivial, trivial, trivial, trivial, trivial, trivial, trivial, trivial, trivial⟩ rfl
  · simp -implicitDefEqProofs only [go_sem, ↓reduceIte, Nat.reduceEqDiff, Nat.reduceAdd, Nat.reduceLeDiff]
    have hin : i = (openG b.games).length := by omega
    exact finK_v ⟨by rw [hin], rfl⟩

end Go.Proofs.YtmfmiobehjgeiaaGreat.Ab

namespace Go.Proofs.YtmfmiobehjgeiaaGreat.Ab
open Go

theorem lawHeaviest (b : Book) (hf : Fits b) (team place : Int) : AFun Tryz.prog F.laws_FnExactHeaviestGame [dBook b, DV (vInt team), DV (vInt place)] [] fun d _ => d = DV (.bool true) := by
  refine AFun.intro k_laws_FnExactHeaviestGame (by simp) ?_
  unfold c_laws_FnExactHeaviestGame
  simp only [argE, Nat.reduceAdd]
  simp only [dBook, eBook_eq]
  simp -implicitDefEqProofs only [go_sem, ↓reduceIte, Nat.reduceEqDiff, Nat.reduceAdd, Nat.reduceLeDiff]
  refine (szBook b 1048576 (by omega) (by omega) hf).callp (.vs (eBook b) (.v _ .nil)) ?_
  by_cases hz : (1048576 : Int) < szB b
  · rw [if_pos hz]
    simp -implicitDefEqProofs only [go_sem, ↓reduceIte, Nat.reduceEqDiff, Nat.reduceAdd, Nat.reduceLeDiff, Int.reduceLT]
    exact finK_v rfl
  rw [if_neg hz]
  have hs : Small b := Small.of (by omega)
  have hz' : ¬ (1048576 - (szB b : Int) < 0) := by omega
  simp -implicitDefEqProofs only [go_sem, ↓reduceIte, Nat.reduceEqDiff, Nat.reduceAdd, Nat.reduceLeDiff, hz']
  refine (toBook b hs).callp (.vs (eBook b) .nil) ?_
  rintro _ _ ⟨rfl, rfl⟩
  rw [shD_book, shB_book]
  simp -implicitDefEqProofs only [go_sem, ↓reduceIte, Nat.reduceEqDiff, Nat.reduceAdd, Nat.reduceLeDiff]
  refine (specHeaviest b hf hs team place).call (br := true) ⟨Vw.book (HasBook.tail [_] [] _), Vw.v _, Vw.v _, trivial⟩ (fun _ => rfl) ?_
  simp -implicitDefEqProofs only [go_sem, ↓reduceIte, Nat.reduceEqDiff, Nat.reduceAdd, Nat.reduceLeDiff, memBook, dBookOwn]
  refine (toBook b hs).callp (.vs (eBook b) .nil) ?_
  rintro _ _ ⟨rfl, rfl⟩
  rw [shD_book, shB_book]
  simp -implicitDefEqProofs only [go_sem, ↓reduceIte, Nat.reduceEqDiff, Nat.reduceAdd, Nat.reduceLeDiff, memBook, dBookOwn]
  refine (implHeaviest b hf hs team place).call (br := true) ⟨Vw.book (i := 6) (HasBook.of rfl rfl rfl rfl rfl), Vw.v _, Vw.v _, trivial⟩ (fun _ => rfl) ?_
  simp -implicitDefEqProofs only [go_sem, ↓reduceIte, Nat.reduceEqDiff, Nat.reduceAdd, Nat.reduceLeDiff, bne_self_eq_false, beq_self_eq_true]
  refine (toBook b hs).callp (.vs (eBook b) .nil) ?_
  rintro _ _ ⟨rfl, rfl⟩
  rw [shD_book, shB_book]
  simp -implicitDefEqProofs only [go_sem, ↓reduceIte, Nat.reduceEqDiff, Nat.reduceAdd, Nat.reduceLeDiff, memBook, dBookOwn]
  refine (eqBook b b hf.field hf.ladder hf.games hf.fair hf.taken).call (br := true) ⟨Vw.book (i := 6) (HasBook.of rfl rfl rfl rfl rfl), Vw.book (i := 12) (HasBook.of rfl rfl rfl rfl rfl), trivial⟩ (fun _ => rfl) ?_
  simp -implicitDefEqProofs only [go_sem, ↓reduceIte, Nat.reduceEqDiff, Nat.reduceAdd, Nat.reduceLeDiff, decide_true]
  exact finK_v rfl

theorem lawWeight (b : Book) (hf : Fits b) (team place game : Int) : AFun Tryz.prog F.laws_FnExactWeightOf [dBook b, DV (vInt team), DV (vInt place), DV (vInt game)] [] fun d _ => d = DV (.bool true) := by
  refine AFun.intro k_laws_FnExactWeightOf (by simp) ?_
  unfold c_laws_FnExactWeightOf
  simp only [argE, Nat.reduceAdd]
  simp only [dBook, eBook_eq]
  simp -implicitDefEqProofs only [go_sem, ↓reduceIte, Nat.reduceEqDiff, Nat.reduceAdd, Nat.reduceLeDiff]
  refine (szBook b 1048576 (by omega) (by omega) hf).callp (.vs (eBook b) (.v _ .nil)) ?_
  by_cases hz : (1048576 : Int) < szB b
  · rw [if_pos hz]
    simp -implicitDefEqProofs only [go_sem, ↓reduceIte, Nat.reduceEqDiff, Nat.reduceAdd, Nat.reduceLeDiff, Int.reduceLT]
    exact finK_v rfl
  rw [if_neg hz]
  have hs : Small b := Small.of (by omega)
  have hz' : ¬ (1048576 - (szB b : Int) < 0) := by omega
  simp -implicitDefEqProofs only [go_sem, ↓reduceIte, Nat.reduceEqDiff, Nat.reduceAdd, Nat.reduceLeDiff, hz']
  refine (toBook b hs).callp (.vs (eBook b) .nil) ?_
  rintro _ _ ⟨rfl, rfl⟩
  rw [shD_book, shB_book]
  simp -implicitDefEqProofs only [go_sem, ↓reduceIte, Nat.reduceEqDiff, Nat.reduceAdd, Nat.reduceLeDiff]
  refine (specWeight b hf hs team place game).call (br := true) ⟨Vw.book (HasBook.tail [_] [] _), Vw.v _, Vw.v _, Vw.v _, trivial⟩ (fun _ => rfl) ?_
  simp -implicitDefEqProofs only [go_sem, ↓reduceIte, Nat.reduceEqDiff, Nat.reduceAdd, Nat.reduceLeDiff, memBook, dBookOwn]
  refine (toBook b hs).callp (.vs (eBook b) .nil) ?_
  rintro _ _ ⟨rfl, rfl⟩
  rw [shD_book, shB_book]
  simp -implicitDefEqProofs only [go_sem, ↓reduceIte, Nat.reduceEqDiff, Nat.reduceAdd, Nat.reduceLeDiff, memBook, dBookOwn]
  refine (implWeight b hf hs team place game).call (br := true) ⟨Vw.book (i := 6) (HasBook.of rfl rfl rfl rfl rfl), Vw.v _, Vw.v _, Vw.v _, trivial⟩ (fun _ => rfl) ?_
  simp -implicitDefEqProofs only [go_sem, ↓reduceIte, Nat.reduceEqDiff, Nat.reduceAdd, Nat.reduceLeDiff, bne_self_eq_false, beq_self_eq_true]
  refine (toBook b hs).callp (.vs (eBook b) .nil) ?_
  rintro _ _ ⟨rfl, rfl⟩
  rw [shD_book, shB_book]
  simp -implicitDefEqProofs only [go_sem, ↓reduceIte, Nat.reduceEqDiff, Nat.reduceAdd, Nat.reduceLeDiff, memBook, dBookOwn]
  refine (eqBook b b hf.field hf.ladder hf.games hf.fair hf.taken).call (br := true) ⟨Vw.book (i := 6) (HasBook.of rfl rfl rfl rfl rfl), Vw.book (i := 12) (HasBook.of rfl rfl rfl rfl rfl), trivial⟩ (fun _ => rfl) ?_
  simp -implicitDefEqProofs only [go_sem, ↓reduceIte, Nat.reduceEqDiff, Nat.reduceAdd, Nat.reduceLeDiff, decide_true]
  exact finK_v rfl

end Go.Proofs.YtmfmiobehjgeiaaGreat.Ab

namespace Go.Proofs.YtmfmiobehjgeiaaGreat.Ab
open Go

def keepI (p : Int → Bool) (l : List Int) : List Int := l.filter fun x => !p x
theorem keepI_len (p : Int → Bool) (l : List Int) : (keepI p l).length ≤ l.length := List.length_filter_le ..
theorem keepI_succ (p : Int → Bool) (l : List Int) {j : Nat} (h : j < l.length) : keepI p (l.take (j + 1)) = keepI p (l.take j) ++ (if p l[j] = true then [] else [l[j]]) := by
  rw [keepI, keepI, List.take_succ_eq_append_getElem h, List.filter_append]
  cases hp : p l[j] <;> simp [hp]
theorem keepI_all (p : Int → Bool) (l : List Int) (h : ((List.range l.length).any fun i => (l[i]?).any p) = false) : keepI p l = l := by
  refine List.filter_eq_self.2 fun x hx => ?_
  obtain ⟨i, hi, rfl⟩ := List.getElem_of_mem hx
  have := List.any_eq_false.1 h i (List.mem_range.2 hi)
  rw [List.getElem?_eq_getElem hi] at this
  simpa using this

theorem take_set_snoc {l B : List Int} {i : Nat} {x : Int} (h : B.take i = l) (hi : i < B.length) : (B.set i x).take (i + 1) = l ++ [x] := by
  rw [List.take_succ_eq_append_getElem (by simpa using hi), List.getElem_set_self, List.take_set_of_le (Nat.le_refl _), h]

theorem clr_cOf (B : List Int) (k : Nat) (hk : k ≤ B.length) : putCells (cOf eInt B) k (manyC (B.length - k) [C.v (.int .i64 0)]) = cOf eInt (B.take k ++ List.replicate (B.length - k) 0) := by
  have hB : (cOf eInt B).length = B.length := by rw [flat_len eInt 1 (fun _ => rfl), Nat.mul_one]
  have hz : (cOf eInt (List.replicate (B.length - k) 0)).length = B.length - k := by rw [flat_len eInt 1 (fun _ => rfl)]; simp
  rw [cOf_zeros]
  apply List.ext_getElem?
  intro j
  rw [putCells_get _ _ _ _ (by omega), hz, cOf_append]
  have ht : (cOf eInt (B.take k)).length = k := by rw [flat_len eInt 1 (fun _ => rfl)]; simp; omega
  by_cases h : k ≤ j ∧ j < k + (B.length - k)
  · rw [if_pos h, List.getElem?_append_right (by omega), ht]
  · rw [if_neg h]
    by_cases h1 : j < k
    · rw [List.getElem?_append_left (by omega), cOf_map, cOf_map, List.getElem?_map, List.getElem?_map, List.getElem?_take, if_pos h1]
    · rw [List.getElem?_eq_none (by omega), List.getElem?_eq_none (by rw [List.length_append]; omega)]

theorem first_ex {f : Nat → Bool} : ∀ {n : Nat}, (List.range n).any f = true → ∃ i, i < n ∧ f i = true ∧ (List.range i).any f = false
  | 0, h => by simp at h
  | n + 1, h => by
    rw [any_range_succ] at h
    by_cases hn : (List.range n).any f = true
    · obtain ⟨i, h1, h2, h3⟩ := first_ex hn
      exact ⟨i, by omega, h2, h3⟩
    · have hn' : (List.range n).any f = false := by simpa using hn
      rw [hn', Bool.false_or] at h
      exact ⟨n, by omega, h, hn'⟩

section
variable {M : List Int → List Blk} {id N g : Nat} {caps : List (Nat × Nat)} {p : Int → Bool} {l : List Int}

theorem indexFuncOwn (hl : l.length < 4611686018427387904) (hM : (M l)[id]? = some (.cells (cOf eInt l))) (hf : isFn Tryz.prog g = true)
    (hc : ∀ x ∈ l, AFun Tryz.prog g (DV (vInt x) :: caps.map fun p => DC (.ptr p.1 p.2)) (M l) fun d m => d = DV (.bool (p x)) ∧ m = M l) :
    AFun Tryz.prog F.slices_IndexFunc_int [DC (.sl 1 id 0 l.length), DC (.fn g caps)] (M l) fun d m => d = DV (vInt (firstI (fun i => (l[i]?).any p) l.length)) ∧ m = M l := by
  refine AFun.intro k_slices_IndexFunc_int (by simp) ?_
  unfold c_slices_IndexFunc_int
  simp only [argE, Nat.reduceAdd]
  simp -implicitDefEqProofs only [go_sem, ↓reduceIte, Nat.reduceEqDiff, Nat.reduceAdd, Nat.reduceLeDiff]
  refine loop_st (S := Nat) (fun i => [(0, DC (.sl 1 id 0 l.length)), (1, DC (.fn g caps)), (7, DV (vInt l.length)), (8, DV (vInt i))]) (fun _ => M l) (fun i => l.length - i) (fun i => i ≤ l.length ∧ ((List.range i).any fun i => (l[i]?).any p) = false) 0 (Nat.le_refl _)
    ⟨rfl, rfl, rfl, rfl, trivial⟩ rfl ⟨Nat.zero_le _, rfl⟩ ?_
  rintro i ⟨hi, hp⟩
  simp -implicitDefEqProofs only [go_sem, ↓reduceIte, Nat.reduceEqDiff, Nat.reduceAdd, Nat.reduceLeDiff, vInt]
  refine condA_dec (fun h => ?_) (fun h => ?_)
  · have hlt : i < l.length := by omega
    have hr := rdI hM hlt
    have hlt' : (i : Int) < (l.length : Int) := by omega
    simp -implicitDefEqProofs only [go_sem, ↓reduceIte, Nat.reduceEqDiff, Nat.reduceAdd, Nat.reduceLeDiff, hlt', ↓hr]
    refine ⟨hf, (AFunG.of (hc l[i] (List.getElem_mem hlt))).mono ?_⟩
    rintro _ _ ⟨rfl, rfl⟩
    cases h1 : p l[i]
    · simp -implicitDefEqProofs only [go_sem, ↓reduceIte, Nat.reduceEqDiff, Nat.reduceAdd, Nat.reduceLeDiff, w64s (show i < 4611686018427387904 by omega)]
      exact next_of (i + 1) (by omega) ⟨by omega, by rw [any_range_succ, hp, List.getElem?_eq_getElem hlt, Option.any_some, h1]; rfl⟩ (Nat.le_refl _) ⟨rfl, rfl, rfl, rfl, trivial⟩ rfl
    · simp -implicitDefEqProofs only [go_sem, ↓reduceIte, Nat.reduceEqDiff, Nat.reduceAdd, Nat.reduceLeDiff]
      exact finK_refl (Nat.le_refl _) ⟨by rw [firstI_some hlt (by rw [List.getElem?_eq_getElem hlt, Option.any_some, h1]) hp], rfl⟩
  · simp -implicitDefEqProofs only [go_sem, ↓reduceIte, Nat.reduceEqDiff, Nat.reduceAdd, Nat.reduceLeDiff]
    have : i = l.length := by omega
    subst this
    exact finK_refl (Nat.le_refl _) ⟨by rw [firstI_none hp], rfl⟩

/-- What lies in the list's block while the kept ones move down. -/
structure Moved (p : Int → Bool) (l : List Int) (j : Nat) (B : List Int) : Prop where
  len : B.length = l.length
  head : B.take (keepI p (l.take j)).length = keepI p (l.take j)
  tail : B.drop j = l.drop j
  lt : (keepI p (l.take j)).length < j
  le : j ≤ l.length

theorem Moved.next {j : Nat} {B : List Int} (h : Moved p l j B) (hj : j < l.length) : Moved p l (j + 1) (if p l[j] = true then B else B.set (keepI p (l.take j)).length l[j]) ∧ ∃ hB : j < B.length, B[j] = l[j] := by
  have h1 := h.len
  have hd : ∀ x : Nat, B[j + x]? = l[j + x]? := fun x => by rw [← List.getElem?_drop, ← List.getElem?_drop, h.tail]
  have hk := keepI_succ p l hj
  have hlt := h.lt
  refine ⟨?_, by omega, by have := hd 0; simpa [List.getElem?_eq_getElem (show j < B.length by omega), List.getElem?_eq_getElem hj] using this⟩
  have htl : ∀ B' : List Int, (∀ x : Nat, B'[j + 1 + x]? = B[j + 1 + x]?) → B'.drop (j + 1) = l.drop (j + 1) := fun B' hB => by
    apply List.ext_getElem?
    intro x
    rw [List.getElem?_drop, List.getElem?_drop, hB, Nat.add_assoc, hd]
  by_cases hp : p l[j] = true
  · rw [if_pos hp] at hk ⊢
    rw [List.append_nil] at hk
    exact ⟨h1, by rw [hk]; exact h.head, htl _ (fun _ => rfl), by rw [hk]; omega, by omega⟩
  · rw [if_neg hp] at hk ⊢
    refine ⟨by simpa using h1, ?_, htl _ (fun x => List.getElem?_set_ne (by omega)), by rw [hk, List.length_append]; simp; omega, by omega⟩
    rw [hk, List.length_append]
    exact take_set_snoc h.head (by omega)

theorem deleteFuncInt (hl : l.length < 4611686018427387904) (hM : ∀ B, (M B)[id]? = some (.cells (cOf eInt B))) (hset : ∀ B B', (M B).set id (.cells (cOf eInt B')) = M B') (hN : ∀ B, (M B).length = N) (hf : isFn Tryz.prog g = true)
    (hc : ∀ B, ∀ x ∈ l, AFun Tryz.prog g (DV (vInt x) :: caps.map fun p => DC (.ptr p.1 p.2)) (M B) fun d m => d = DV (.bool (p x)) ∧ m = M B) :
    AFun Tryz.prog F.slices_DeleteFunc_int [DC (.sl 1 id 0 l.length), DC (.fn g caps)] (M l) fun d m => d = DC (.sl 1 id 0 (keepI p l).length) ∧ ∃ B : List Int, B.length = l.length ∧ B.take (keepI p l).length = keepI p l ∧ m = M B := by
  refine AFun.intro k_slices_DeleteFunc_int (by simp) ?_
  unfold c_slices_DeleteFunc_int
  simp only [argE, Nat.reduceAdd]
  simp -implicitDefEqProofs only [go_sem, ↓reduceIte, Nat.reduceEqDiff, Nat.reduceAdd, Nat.reduceLeDiff]
  refine (AFunG.of (indexFuncOwn hl (hM l) hf (hc l))).mono ?_
  rintro _ _ ⟨rfl, rfl⟩
  rcases Bool.eq_false_or_eq_true ((List.range l.length).any fun i => (l[i]?).any p) with hany | hno
  · obtain ⟨i, hi, hpi, hno⟩ := first_ex hany
    rw [firstI_some hi hpi hno]
    have hpi' : p l[i] = true := by rw [List.getElem?_eq_getElem hi, Option.any_some] at hpi; exact hpi
    have hne : ¬ (i : Int) = -1 := by omega
    have hk0 : keepI p (l.take i) = l.take i := by
      refine keepI_all p (l.take i) ?_
      refine List.any_eq_false.2 fun j hj => ?_
      have hj' := List.mem_range.1 hj
      rw [List.length_take] at hj'
      have := List.any_eq_false.1 hno j (List.mem_range.2 (by omega))
      rwa [List.getElem?_take, if_pos (by omega)]
    have hk1 : keepI p (l.take (i + 1)) = l.take i := by rw [keepI_succ p l hi, if_pos hpi', List.append_nil, hk0]
    have hkl : (keepI p (l.take (i + 1))).length = i := by rw [hk1, List.length_take]; omega
    simp -implicitDefEqProofs only [go_sem, ↓reduceIte, Nat.reduceEqDiff, Nat.reduceAdd, Nat.reduceLeDiff, decide_false, hne, w64s (show i < 4611686018427387904 by omega)]
    refine loop_st (S := Nat × List Int) (fun s => [(0, DC (.sl 1 id 0 l.length)), (1, DC (.fn g caps)), (5, DV (vInt (keepI p (l.take s.1)).length)), (6, DV (vInt s.1))]) (fun s => M s.2) (fun s => l.length - s.1) (fun s => Moved p l s.1 s.2) (i + 1, l) (Nat.le_refl _)
      ⟨rfl, rfl, by rw [hkl]; rfl, rfl, trivial⟩ rfl ⟨rfl, by simp only; rw [hkl, hk1], rfl, by simp only; omega, by simp only; omega⟩ ?_
    rintro ⟨j, B⟩ hmv
    simp only at hmv ⊢
    have hNB : (M l).length = (M B).length := by rw [hN, hN]
    simp -implicitDefEqProofs only [go_sem, ↓reduceIte, Nat.reduceEqDiff, Nat.reduceAdd, Nat.reduceLeDiff, vInt]
    refine condA_dec (fun h => ?_) (fun h => ?_)
    · have hlt : j < l.length := by omega
      obtain ⟨hnx, hjB, hjv⟩ := hmv.next hlt
      have hr := rdI (hM B) hjB
      have hlt' : (j : Int) < (l.length : Int) := by omega
      have hkj := hmv.lt
      have hks := keepI_succ p l hlt
      rw [hjv] at hr
      simp -implicitDefEqProofs only [go_sem, ↓reduceIte, Nat.reduceEqDiff, Nat.reduceAdd, Nat.reduceLeDiff, hlt', ↓hr]
      refine ⟨hf, (AFunG.of (hc B l[j] (List.getElem_mem hlt))).mono ?_⟩
      rintro _ _ ⟨rfl, rfl⟩
      have hwl : (keepI p (l.take j)).length < B.length := by omega
      have hw := wrI (hM B) hwl l[j]
      rw [hset] at hw
      have hkl' : ((keepI p (l.take j)).length : Int) < (l.length : Int) := by omega
      cases h1 : p l[j]
      · rw [h1] at hnx hks
        simp only [Bool.false_eq_true, ↓reduceIte] at hnx hks
        have e1 : (keepI p (l.take (j + 1))).length = (keepI p (l.take j)).length + 1 := by rw [hks]; simp
        simp -implicitDefEqProofs only [go_sem, ↓reduceIte, Nat.reduceEqDiff, Nat.reduceAdd, Nat.reduceLeDiff, hkl', ↓hw, w64s (show j < 4611686018427387904 by omega), w64s (show (keepI p (l.take j)).length < 4611686018427387904 by omega)]
        exact next_of (s := ((j, B) : Nat × List Int)) (j + 1, _) (by show l.length - (j + 1) < l.length - j; omega) hnx (by simp only [hN, Nat.le_refl]) ⟨rfl, rfl, by rw [e1]; rfl, rfl, trivial⟩ rfl
      · rw [h1] at hnx hks
        simp only [↓reduceIte, List.append_nil] at hnx hks
        simp -implicitDefEqProofs only [go_sem, ↓reduceIte, Nat.reduceEqDiff, Nat.reduceAdd, Nat.reduceLeDiff, w64s (show j < 4611686018427387904 by omega)]
        exact next_of (s := ((j, B) : Nat × List Int)) (j + 1, _) (by show l.length - (j + 1) < l.length - j; omega) hnx (by omega) ⟨rfl, rfl, by rw [hks]; rfl, rfl, trivial⟩ rfl
    · have hjn : j = l.length := by have := hmv.le; omega
      subst hjn
      have hkk : l.take l.length = l := List.take_length
      have h1 := hmv.len
      have h2 := hmv.head
      have h3 := keepI_len p l
      rw [hkk] at h2 ⊢
      generalize hk : keepI p l = kl at *
      have hcl := clr_cOf B kl.length (by omega)
      have hcw : wrm (M B) id (0 + kl.length * 1) ((l.length - kl.length) * 1) (manyC (l.length - kl.length) [C.v (.int .i64 0)]) = some (M (B.take kl.length ++ List.replicate (B.length - kl.length) 0)) := by
        have hBl : (cOf eInt B).length = B.length := by rw [flat_len eInt 1 (fun _ => rfl), Nat.mul_one]
        rw [wrm_of _ id _ _ _ _ (hM B) (by rw [many_len (n := 1) rfl]) (by rw [hBl]; omega), Nat.zero_add, Nat.mul_one, ← h1, hcl, hset]
      simp -implicitDefEqProofs only [go_sem, ↓reduceIte, Nat.reduceEqDiff, Nat.reduceAdd, Nat.reduceLeDiff]
      refine slsA_sl _ _ _ _ _ _ _ kl.length l.length rfl rfl (by omega) (by omega) (by omega) ?_
      have e2 : ((l.length : Int) - (kl.length : Int)).toNat = l.length - kl.length := by omega
      simp -implicitDefEqProofs only [go_sem, ↓reduceIte, Nat.reduceEqDiff, Nat.reduceAdd, Nat.reduceLeDiff, e2, ↓hcw]
      refine slsA_sl _ _ _ _ _ _ _ 0 kl.length rfl rfl (by omega) (by omega) (by omega) ?_
      simp -implicitDefEqProofs only [go_sem, ↓reduceIte, Nat.reduceEqDiff, Nat.reduceAdd, Nat.reduceLeDiff]
      refine finK_refl (by rw [hN, hN]; exact Nat.le_refl _) ⟨by simp, B.take kl.length ++ List.replicate (B.length - kl.length) 0, by simp; omega, ?_, rfl⟩
      rw [List.take_append_of_le_length (by simp; omega), List.take_take, Nat.min_self, h2]
  · rw [firstI_none hno]
    simp -implicitDefEqProofs only [go_sem, ↓reduceIte, Nat.reduceEqDiff, Nat.reduceAdd, Nat.reduceLeDiff, decide_true]
    exact finK_refl (Nat.le_refl _) ⟨by rw [keepI_all p l hno], l, rfl, by rw [keepI_all p l hno, List.take_length], rfl⟩
end

end Go.Proofs.YtmfmiobehjgeiaaGreat.Ab

namespace Go.Proofs.YtmfmiobehjgeiaaGreat.Ab
open Go

def playAt (b : Book) (k : Nat) (o : Int) : Book := ⟨b.field, b.rules, b.games.set k (playGame (b.games.getD k zeroGame) o), b.fair, b.taken⟩
theorem playAt_ok {b : Book} {k : Nat} {o : Int} (h : bookOk b = true) (hk : k < b.games.length) : bookOk (playAt b k o) = true := by
  simp only [bookOk, Bool.and_eq_true] at h ⊢
  refine ⟨⟨⟨⟨h.1.1.1.1, h.1.1.1.2⟩, ?_⟩, h.1.2⟩, h.2⟩
  have hs := h.1.1.2
  simp only [playAt, getD_of hk]
  exact seasonOk_set hk (playGame_home _ _) (playGame_away _ _) (playGame_ok ((seasonOk_mem hs).2 _ (List.getElem_mem hk))) hs
theorem playAt_fits {b : Book} {k : Nat} {o : Int} (h : Fits b) : Fits (playAt b k o) :=
  ⟨h.field, h.names, h.ladder, by show (b.games.set _ _).length < _; rw [List.length_set]; exact h.games, h.fair, h.taken⟩

def sameR (R1 R2 R3 : List Int) (x : Int) : Bool := decide (R1.getD x.toNat 0 = R2.getD x.toNat 0) && decide (R2.getD x.toNat 0 = R3.getD x.toNat 0)
def canDep (b : Book) (game : Int) : Bool := bookOk b && inB game 0 (b.games.length - 1)
def deps (b : Book) (game : Int) : List Int := if canDep b game = true then keepI (sameR (ranksM (playAt b game.toNat 1)) (ranksM (playAt b game.toNat 2)) (ranksM (playAt b game.toNat 3))) (upTo b.field.length) else []

theorem isFn_depC1 : isFn Tryz.prog F.impl_DependentTeams_c1 = true := by kernel_rfl
theorem depC1 {m : List Blk} {p o a b c n : Nat} {R1 R2 R3 : List Int} (x : Int) (h0 : 0 ≤ x) (hn : x < n) (h1 : R1.length = n) (h2 : R2.length = n) (h3 : R3.length = n)
    (hP : m[p]? = some (.cells [.sl 1 o 0 3])) (hO : m[o]? = some (.cells [.sl 1 a 0 n, .sl 1 b 0 n, .sl 1 c 0 n])) (hA : m[a]? = some (.cells (cOf eInt R1))) (hB : m[b]? = some (.cells (cOf eInt R2))) (hC : m[c]? = some (.cells (cOf eInt R3))) :
    AFun Tryz.prog F.impl_DependentTeams_c1 [DV (vInt x), DC (.ptr p 0)] m fun d m' => d = DV (.bool (sameR R1 R2 R3 x)) ∧ m' = m := by
  have rP : rdm m p 0 1 = some [.sl 1 o 0 3] := by unfold rdm; rw [hP]; rfl
  have rO0 : rdm m o (0 + Int.toNat 0 * 1) 1 = some [.sl 1 a 0 n] := by unfold rdm; rw [hO]; rfl
  have rO1 : rdm m o (0 + Int.toNat 1 * 1) 1 = some [.sl 1 b 0 n] := by unfold rdm; rw [hO]; rfl
  have rO2 : rdm m o (0 + Int.toNat 2 * 1) 1 = some [.sl 1 c 0 n] := by unfold rdm; rw [hO]; rfl
  have l1 : x.toNat < R1.length := by omega
  have l2 : x.toNat < R2.length := by omega
  have l3 : x.toNat < R3.length := by omega
  have rA := rdI hA l1
  have rB := rdI hB l2
  have rC := rdI hC l3
  have e : sameR R1 R2 R3 x = (decide (R1[x.toNat] = R2[x.toNat]) && decide (R2[x.toNat] = R3[x.toNat])) := by rw [sameR, getD_of l1, getD_of l2, getD_of l3]
  rw [e]
  generalize R1[x.toNat] = a1 at *
  generalize R2[x.toNat] = a2 at *
  generalize R3[x.toNat] = a3 at *
  have f0 : (0 : Int) < ((3 : Nat) : Int) := by omega
  have f1 : (1 : Int) < ((3 : Nat) : Int) := by omega
  have f2 : (2 : Int) < ((3 : Nat) : Int) := by omega
  have g0 : (0 : Int) ≤ 0 := by omega
  have g1 : (0 : Int) ≤ 1 := by omega
  have g2 : (0 : Int) ≤ 2 := by omega
  refine AFun.intro k_impl_DependentTeams_c1 (by simp) ?_
  unfold c_impl_DependentTeams_c1
  simp only [argE, Nat.reduceAdd]
  simp -implicitDefEqProofs only [go_sem, ↓reduceIte, Nat.reduceEqDiff, Nat.reduceAdd, Nat.reduceLeDiff, f0, f1, f2, g0, g1, g2, ↓rP, ↓rO0, ↓rO1, ↓rO2, ↓rA, ↓rB, ↓rC, h0, hn]
  cases hd : decide (a1 = a2)
  · simp -implicitDefEqProofs only [go_sem, ↓reduceIte, Nat.reduceEqDiff, Nat.reduceAdd, Nat.reduceLeDiff, hd]
    exact finK_refl (Nat.le_refl _) ⟨rfl, rfl⟩
  · simp -implicitDefEqProofs only [go_sem, ↓reduceIte, Nat.reduceEqDiff, Nat.reduceAdd, Nat.reduceLeDiff, hd, f0, f1, f2, g0, g1, g2, ↓rP, ↓rO1, ↓rO2, ↓rB, ↓rC, h0, hn]
    exact finK_refl (Nat.le_refl _) ⟨rfl, rfl⟩

/-- An own list of no room, for nil. -/
theorem finK_nilD {K : D → List Blk → Prop} {m : List Blk} (sz : Nat) (k : K (DC (.sl sz 0 0 0)) [.cells []]) : finK 0 m K (DC .nil) := by
  refine ⟨DC (.sl sz 0 0 0), [.cells []], fun X σ w v hm hv => ?_, k⟩
  obtain ⟨A, rfl⟩ := hv
  have hno : ∀ b, ¬ Own (fun i => if i = 0 then some none else none) [Blk.cells []] b := fun b ⟨id, cs, N, _, h2⟩ => by
    simp only at h2
    split at h2 <;> cases h2
  refine ⟨fun i => if i = 0 then some none else none, .inl ⟨by simp, rfl, A, rfl⟩, ⟨fun id cs hid => ?_, fun id id' b N N' cs cs' _ _ h3 _ => ?_, fun b hb => ⟨(hm.far b hb).1, hno b⟩, fun id hid => ?_⟩,
    ⟨fun id hid => absurd hid (Nat.not_lt_zero _), rfl, rfl, rfl, Nat.le_refl _, fun _ _ _ => rfl, fun b hb => (hno b hb).elim⟩, Nat.zero_le _⟩
  · cases id with
    | zero => cases hid; exact .inl ⟨by simp, rfl⟩
    | succ id => simp at hid
  · split at h3 <;> cases h3
  · simp only [List.length_cons, List.length_nil] at hid
    exact if_neg (by omega)

theorem leCs_pre {ρ : Nat → Nat} : ∀ (ys zs : List V), LeCs ρ (ys.map .v) ((ys ++ zs).map .v)
  | [], _ => trivial
  | _ :: r, zs => ⟨.inr rfl, leCs_pre r zs⟩

/-- The head of an own list, as a result. -/
theorem finK_head {K : D → List Blk → Prop} {m : List Blk} {id k : Nat} {B l : List Int} (hm : m[id]? = some (.cells (cOf eInt B))) (hl : B.take k = l) (hk : k = l.length) (h : K (DC (.sl 1 0 0 l.length)) [.cells (cOf eInt l)]) : finK 0 m K (DC (.sl 1 id 0 k)) := by
  subst hk
  refine ⟨DC (.sl 1 0 0 l.length), [.cells (cOf eInt l)], WkD.of [id] (fun i j hi hj _ => by simp only [List.length_cons, List.length_nil] at hi hj; omega) (fun i b' hi => ?_) (.inr rfl) (show 0 < 1 from Nat.zero_lt_one), h⟩
  match i, hi with
  | 0, hi =>
    cases hi
    refine ⟨_, hm, ltCs_vs _, ?_⟩
    have e : cOf eInt B = ((l.map eInt).flatten ++ ((B.drop l.length).map eInt).flatten).map .v := by
      conv => lhs; rw [← List.take_append_drop l.length B, hl]
      simp [cOf]
    rw [e]
    exact leCs_pre _ _
  | i + 1, hi => simp at hi

end Go.Proofs.YtmfmiobehjgeiaaGreat.Ab

namespace Go.Proofs.YtmfmiobehjgeiaaGreat.Ab
open Go

theorem dBookOwn_playAt (b : Book) (k : Nat) (o : Int) (i : Nat) : dBookOwn (playAt b k o) i = dBookOwn b i := by
  simp only [dBookOwn, playAt, List.length_set]
theorem Vw.bookAt {m : List Blk} {i k : Nat} {b : Book} {o : Int} (h : HasBook m i (playAt b k o)) : Vw m true (dBookOwn b i) (dBook (playAt b k o)) := by
  rw [← dBookOwn_playAt b k o i]; exact Vw.book h

theorem rdGd {b : Book} {k : Nat} (hk : k < b.games.length) : ∀ (m : List Blk) (id : Nat), m[id]? = some (.cells (cOf eGame b.games)) → rdm m id (0 + k * 5) 5 = some ((eGame (b.games.getD k zeroGame)).map .v) := fun m id h => by
  rw [getD_of hk]; exact rdG h hk
theorem wrGd {b : Book} {k : Nat} (hk : k < b.games.length) (o : Int) : ∀ (m : List Blk) (id : Nat), m[id]? = some (.cells (cOf eGame b.games)) → wrm m id (0 + k * 5) 5 ((eGame (playGame (b.games.getD k zeroGame) o)).map .v) = some (m.set id (.cells (cOf eGame (playAt b k o).games))) := fun m id h =>
  wrG h hk _

def stepT : Nat → Int
  | 0 => 1
  | 1 => 2
  | 2 => 3
  | _ => 4
def depM (b : Book) (k : Nat) : Nat → List Blk
  | 0 => [.cells ((eBook b).map .v), .cells [], .cells [.sl 1 1 0 0]]
  | 1 => [.cells ((eBook b).map .v), .hole, .cells [.sl 1 11 0 1], .cells (cOf eTeam b.field), .cells (cOf eInt b.rules.ladder), .cells (cOf eGame (playAt b k 1).games), .cells (cOf eInt b.fair), .cells (cOf eInt b.taken), .cells (cBook b 3), .cells (cOf eInt (ranksM (playAt b k 1))), .cells [.sl 1 9 0 b.field.length], .cells [.sl 1 9 0 b.field.length]]
  | 2 => [.cells ((eBook b).map .v), .hole, .cells [.sl 1 20 0 2], .cells (cOf eTeam b.field), .cells (cOf eInt b.rules.ladder), .cells (cOf eGame (playAt b k 1).games), .cells (cOf eInt b.fair), .cells (cOf eInt b.taken), .cells (cBook b 3), .cells (cOf eInt (ranksM (playAt b k 1))), .cells [.sl 1 9 0 b.field.length], .hole, .cells (cOf eTeam b.field), .cells (cOf eInt b.rules.ladder), .cells (cOf eGame (playAt b k 2).games), .cells (cOf eInt b.fair), .cells (cOf eInt b.taken), .cells (cBook b 12), .cells (cOf eInt (ranksM (playAt b k 2))), .cells [.sl 1 18 0 b.field.length], .cells [.sl 1 9 0 b.field.length, .sl 1 18 0 b.field.length]]
  | _ => [.cells ((eBook b).map .v), .hole, .cells [.sl 1 29 0 3], .cells (cOf eTeam b.field), .cells (cOf eInt b.rules.ladder), .cells (cOf eGame (playAt b k 1).games), .cells (cOf eInt b.fair), .cells (cOf eInt b.taken), .cells (cBook b 3), .cells (cOf eInt (ranksM (playAt b k 1))), .cells [.sl 1 9 0 b.field.length], .hole, .cells (cOf eTeam b.field), .cells (cOf eInt b.rules.ladder), .cells (cOf eGame (playAt b k 2).games), .cells (cOf eInt b.fair), .cells (cOf eInt b.taken), .cells (cBook b 12), .cells (cOf eInt (ranksM (playAt b k 2))), .cells [.sl 1 18 0 b.field.length], .hole, .cells (cOf eTeam b.field), .cells (cOf eInt b.rules.ladder), .cells (cOf eGame (playAt b k 3).games), .cells (cOf eInt b.fair), .cells (cOf eInt b.taken), .cells (cBook b 21), .cells (cOf eInt (ranksM (playAt b k 3))), .cells [.sl 1 27 0 b.field.length], .cells [.sl 1 9 0 b.field.length, .sl 1 18 0 b.field.length, .sl 1 27 0 b.field.length]]

theorem implDependent (b : Book) (hf : Fits b) (hs : Small b) (game : Int) : AFun Tryz.prog F.impl_DependentTeams [dBook b, DV (vInt game)] [] fun d m => d = DC (.sl 1 0 0 (deps b game).length) ∧ m = [.cells (cOf eInt (deps b game))] := by
  have hg := hs.games
  have hn := hs.field
  refine AFun.intro k_impl_DependentTeams (by simp) ?_
  unfold c_impl_DependentTeams
  simp only [argE, Nat.reduceAdd]
  simp only [dBook, eBook_eq]
  simp -implicitDefEqProofs only [go_sem, ↓reduceIte, Nat.reduceEqDiff, Nat.reduceAdd, Nat.reduceLeDiff]
  refine (implBookOk b hf).callp (.vs (eBook b) .nil) ?_
  have bad : canDep b game = false → deps b game = [] := fun h => by rw [deps, h]; rfl
  cases hok : bookOk b
  · simp -implicitDefEqProofs only [go_sem, ↓reduceIte, Nat.reduceEqDiff, Nat.reduceAdd, Nat.reduceLeDiff]
    have h := bad (by rw [canDep, hok]; rfl)
    exact finK_nilD 1 (by rw [h]; exact ⟨rfl, rfl⟩)
  simp -implicitDefEqProofs only [go_sem, ↓reduceIte, Nat.reduceEqDiff, Nat.reduceAdd, Nat.reduceLeDiff, vGames, w64 (x := (b.games.length : Int) - 1) (by omega) (by omega)]
  refine (within game 0 (b.games.length - 1)).callp (.v _ (.v _ (.v _ .nil))) ?_
  cases hte : inB game 0 (b.games.length - 1)
  · simp -implicitDefEqProofs only [go_sem, ↓reduceIte, Nat.reduceEqDiff, Nat.reduceAdd, Nat.reduceLeDiff]
    have h := bad (by rw [canDep, hok, hte]; rfl)
    exact finK_nilD 1 (by rw [h]; exact ⟨rfl, rfl⟩)
  have hcan : canDep b game = true := by rw [canDep, hok, hte]; rfl
  obtain ⟨k0, k1⟩ := inB_iff.1 hte
  have hk : game.toNat < b.games.length := by omega
  have k1' : game < (b.games.length : Int) := by omega
  have hgd : ∀ o, Good (playAt b game.toNat o) := fun o => Good.of (playAt_ok hok hk)
  have hr := rdGd hk
  have hdep : deps b game = keepI (sameR (ranksM (playAt b game.toNat 1)) (ranksM (playAt b game.toNat 2)) (ranksM (playAt b game.toNat 3))) (upTo b.field.length) := by rw [deps, if_pos hcan]
  have hrl : ∀ o, (ranksM (playAt b game.toNat o)).length = b.field.length := fun o => ranksM_len _
  simp -implicitDefEqProofs only [go_sem, ↓reduceIte, Nat.reduceEqDiff, Nat.reduceAdd, Nat.reduceLeDiff]
  refine loop_st (S := Nat) (fun i => [(1, DV (vInt game)), (2, DC (.ptr 0 0)), (5, DC (.ptr 2 0)), (6, DV (vInt (stepT i)))]) (depM b game.toNat) (fun i => 3 - i) (fun i => i ≤ 3) 0 (Nat.zero_le _)
    ⟨rfl, rfl, rfl, rfl, trivial⟩ rfl (Nat.zero_le _) ?_
  intro i hi
  rcases (by omega : i = 0 ∨ i = 1 ∨ i = 2 ∨ i = 3) with rfl | rfl | rfl | rfl
  · simp only [stepT, depM, eBook_eq]
    simp -implicitDefEqProofs only [go_sem, ↓reduceIte, Nat.reduceEqDiff, Nat.reduceAdd, Nat.reduceLeDiff, vInt, Int.reduceLE, decide_true]
    refine (implCopied b hs).callp (.vs (eBook b) .nil) ?_
    rintro _ _ ⟨rfl, rfl⟩
    rw [shD_book, shB_book]
    simp -implicitDefEqProofs only [go_sem, ↓reduceIte, Nat.reduceEqDiff, Nat.reduceAdd, Nat.reduceLeDiff, memBook, dBookOwn, k0, k1', ↓hr]
    refine (implPlayGame (b.games.getD game.toNat zeroGame) 1).callp (.vs (eGame (b.games.getD game.toNat zeroGame)) (.v _ .nil)) ?_
    have hw := wrGd hk 1
    simp -implicitDefEqProofs only [go_sem, ↓reduceIte, Nat.reduceEqDiff, Nat.reduceAdd, Nat.reduceLeDiff, dGame, k0, k1', ↓hw]
    refine (implRanks (playAt b game.toNat 1) (hgd 1)).callb ⟨Vw.bookAt (i := 3) (HasBook.of rfl rfl rfl rfl rfl), trivial⟩ (fun d m' ⟨h1, h2⟩ => by subst h1; subst h2; exact ⟨rfl, by simp only [List.all_cons, List.all_nil, Bool.and_true]; exact noRo_cOf _ (fun _ => rfl) _⟩) ?_
    rintro _ _ ⟨rfl, rfl⟩
    simp -implicitDefEqProofs only [go_sem, ↓reduceIte, Nat.reduceEqDiff, Nat.reduceAdd, Nat.reduceLeDiff, shD_sl, shB_cells, shC_cOf, w64 (x := 1 + 1) (by omega) (by omega)]
    exact ⟨by omega, next_of (1) (by omega) (by omega) (Nat.zero_le _) ⟨rfl, rfl, rfl, rfl, trivial⟩ rfl⟩
  · simp only [stepT, depM, eBook_eq]
    simp -implicitDefEqProofs only [go_sem, ↓reduceIte, Nat.reduceEqDiff, Nat.reduceAdd, Nat.reduceLeDiff, vInt, Int.reduceLE, decide_true]
    refine (implCopied b hs).callp (.vs (eBook b) .nil) ?_
    rintro _ _ ⟨rfl, rfl⟩
    rw [shD_book, shB_book]
    simp -implicitDefEqProofs only [go_sem, ↓reduceIte, Nat.reduceEqDiff, Nat.reduceAdd, Nat.reduceLeDiff, memBook, dBookOwn, k0, k1', ↓hr]
    refine (implPlayGame (b.games.getD game.toNat zeroGame) 2).callp (.vs (eGame (b.games.getD game.toNat zeroGame)) (.v _ .nil)) ?_
    have hw := wrGd hk 2
    simp -implicitDefEqProofs only [go_sem, ↓reduceIte, Nat.reduceEqDiff, Nat.reduceAdd, Nat.reduceLeDiff, dGame, k0, k1', ↓hw]
    refine (implRanks (playAt b game.toNat 2) (hgd 2)).callb ⟨Vw.bookAt (i := 12) (HasBook.of rfl rfl rfl rfl rfl), trivial⟩ (fun d m' ⟨h1, h2⟩ => by subst h1; subst h2; exact ⟨rfl, by simp only [List.all_cons, List.all_nil, Bool.and_true]; exact noRo_cOf _ (fun _ => rfl) _⟩) ?_
    rintro _ _ ⟨rfl, rfl⟩
    simp -implicitDefEqProofs only [go_sem, ↓reduceIte, Nat.reduceEqDiff, Nat.reduceAdd, Nat.reduceLeDiff, shD_sl, shB_cells, shC_cOf, w64 (x := 2 + 1) (by omega) (by omega)]
    exact ⟨by omega, next_of (2) (by omega) (by omega) (Nat.zero_le _) ⟨rfl, rfl, rfl, rfl, trivial⟩ rfl⟩
  · simp only [stepT, depM, eBook_eq]
    simp -implicitDefEqProofs only [go_sem, ↓reduceIte, Nat.reduceEqDiff, Nat.reduceAdd, Nat.reduceLeDiff, vInt, Int.reduceLE, decide_true]
    refine (implCopied b hs).callp (.vs (eBook b) .nil) ?_
    rintro _ _ ⟨rfl, rfl⟩
    rw [shD_book, shB_book]
    simp -implicitDefEqProofs only [go_sem, ↓reduceIte, Nat.reduceEqDiff, Nat.reduceAdd, Nat.reduceLeDiff, memBook, dBookOwn, k0, k1', ↓hr]
    refine (implPlayGame (b.games.getD game.toNat zeroGame) 3).callp (.vs (eGame (b.games.getD game.toNat zeroGame)) (.v _ .nil)) ?_
    have hw := wrGd hk 3
    simp -implicitDefEqProofs only [go_sem, ↓reduceIte, Nat.reduceEqDiff, Nat.reduceAdd, Nat.reduceLeDiff, dGame, k0, k1', ↓hw]
    refine (implRanks (playAt b game.toNat 3) (hgd 3)).callb ⟨Vw.bookAt (i := 21) (HasBook.of rfl rfl rfl rfl rfl), trivial⟩ (fun d m' ⟨h1, h2⟩ => by subst h1; subst h2; exact ⟨rfl, by simp only [List.all_cons, List.all_nil, Bool.and_true]; exact noRo_cOf _ (fun _ => rfl) _⟩) ?_
    rintro _ _ ⟨rfl, rfl⟩
    simp -implicitDefEqProofs only [go_sem, ↓reduceIte, Nat.reduceEqDiff, Nat.reduceAdd, Nat.reduceLeDiff, shD_sl, shB_cells, shC_cOf, w64 (x := 3 + 1) (by omega) (by omega)]
    exact ⟨by omega, next_of (3) (by omega) (by omega) (Nat.zero_le _) ⟨rfl, rfl, rfl, rfl, trivial⟩ rfl⟩
  · simp only [stepT, depM, eBook_eq]
    simp -implicitDefEqProofs only [go_sem, ↓reduceIte, Nat.reduceEqDiff, Nat.reduceAdd, Nat.reduceLeDiff, vInt, Int.reduceLE, decide_false, vTeams]
    refine (implUpTo b.field.length hn).callp (.v _ .nil) ?_
    rintro _ _ ⟨rfl, rfl⟩
    simp -implicitDefEqProofs only [go_sem, ↓reduceIte, Nat.reduceEqDiff, Nat.reduceAdd, Nat.reduceLeDiff, shD_sl, shB_cells, shC_cOf]
    have hdel := deleteFuncInt (M := fun B => (depM b game.toNat 3) ++ [.cells (cOf eInt B)]) (id := 30) (N := 31) (g := F.impl_DependentTeams_c1) (caps := [(2, 0)]) (p := sameR (ranksM (playAt b game.toNat 1)) (ranksM (playAt b game.toNat 2)) (ranksM (playAt b game.toNat 3))) (l := upTo b.field.length)
      (by rw [upTo_len]; omega) (fun _ => rfl) (fun _ _ => rfl) (fun _ => rfl) isFn_depC1 (fun B x hx => by
        obtain ⟨x0, x1⟩ := upTo_mem.1 hx
        exact depC1 (o := 29) (a := 9) (b := 18) (c := 27) x x0 x1 (hrl _) (hrl _) (hrl _) rfl rfl rfl rfl rfl)
    rw [upTo_len, ← hdep] at hdel
    refine (AFunG.of hdel).mono ?_
    rintro _ _ ⟨rfl, B, hB1, hB2, rfl⟩
    simp -implicitDefEqProofs only [go_sem, ↓reduceIte, Nat.reduceEqDiff, Nat.reduceAdd, Nat.reduceLeDiff]
    refine finK_head (B := B) (id := 30) rfl hB2 rfl ⟨rfl, rfl⟩

end Go.Proofs.YtmfmiobehjgeiaaGreat.Ab

namespace Go.Proofs.YtmfmiobehjgeiaaGreat.Ab
open Go

def depS (b : Book) (k : Nat) : Nat → List Blk
  | 0 => [.cells ((eBook b).map .v), .cells []]
  | 1 => [.cells ((eBook b).map .v), .hole, .cells (cOf eTeam b.field), .cells (cOf eInt b.rules.ladder), .cells (cOf eGame (playAt b k 1).games), .cells (cOf eInt b.fair), .cells (cOf eInt b.taken), .cells (cBook b 2), .cells (cBook b 2), .cells (cBook b 2)]
  | 2 => [.cells ((eBook b).map .v), .hole, .cells (cOf eTeam b.field), .cells (cOf eInt b.rules.ladder), .cells (cOf eGame (playAt b k 1).games), .cells (cOf eInt b.fair), .cells (cOf eInt b.taken), .cells (cBook b 2), .cells (cBook b 2), .hole, .cells (cOf eTeam b.field), .cells (cOf eInt b.rules.ladder), .cells (cOf eGame (playAt b k 2).games), .cells (cOf eInt b.fair), .cells (cOf eInt b.taken), .cells (cBook b 10), .cells (cBook b 10), .cells (cBook b 2 ++ cBook b 10)]
  | _ => [.cells ((eBook b).map .v), .hole, .cells (cOf eTeam b.field), .cells (cOf eInt b.rules.ladder), .cells (cOf eGame (playAt b k 1).games), .cells (cOf eInt b.fair), .cells (cOf eInt b.taken), .cells (cBook b 2), .cells (cBook b 2), .hole, .cells (cOf eTeam b.field), .cells (cOf eInt b.rules.ladder), .cells (cOf eGame (playAt b k 2).games), .cells (cOf eInt b.fair), .cells (cOf eInt b.taken), .cells (cBook b 10), .cells (cBook b 10), .hole, .cells (cOf eTeam b.field), .cells (cOf eInt b.rules.ladder), .cells (cOf eGame (playAt b k 3).games), .cells (cOf eInt b.fair), .cells (cOf eInt b.taken), .cells (cBook b 18), .cells (cBook b 18), .cells (cBook b 2 ++ cBook b 10 ++ cBook b 18)]
def depO : Nat → Nat
  | 0 => 1
  | 1 => 9
  | 2 => 17
  | _ => 25

theorem sameR_rank {b : Book} {k : Nat} (hok : bookOk b = true) (hk : k < b.games.length) {t : Nat} (ht : t < b.field.length) :
    (!sameR (ranksM (playAt b k 1)) (ranksM (playAt b k 2)) (ranksM (playAt b k 3)) t) = (decide (rankOfM (playAt b k 2) t ≠ rankOfM (playAt b k 1) t) || decide (rankOfM (playAt b k 3) t ≠ rankOfM (playAt b k 1) t)) := by
  have e : ∀ o, (ranksM (playAt b k o)).getD t 0 = rankOfM (playAt b k o) t := fun o => by
    have hl : (ranksM (playAt b k o)).length = b.field.length := ranksM_len _
    rw [getD_of (by omega), rankOfM, if_pos (playAt_ok hok hk)]
    simp only [ranksM, List.getElem_map, upTo_get]
  rw [sameR, show ((t : Int)).toNat = t from by omega, e, e, e]
  generalize rankOfM (playAt b k 1) t = x
  generalize rankOfM (playAt b k 2) t = y
  generalize rankOfM (playAt b k 3) t = z
  by_cases h1 : x = y
  · subst h1
    by_cases h2 : x = z
    · subst h2; simp
    · simp [h2, Ne.symm h2]
  · simp [h1, Ne.symm h1]

theorem specDependent (b : Book) (hf : Fits b) (hs : Small b) (game : Int) : AFun Tryz.prog F.spec_DependentTeams [dBook b, DV (vInt game)] [] fun d m => d = DC (.sl 1 0 0 (deps b game).length) ∧ m = [.cells (cOf eInt (deps b game))] := by
  have hg := hs.games
  have hn := hs.field
  refine AFun.intro k_spec_DependentTeams (by simp) ?_
  unfold c_spec_DependentTeams
  simp only [argE, Nat.reduceAdd]
  simp only [dBook, eBook_eq]
  simp -implicitDefEqProofs only [go_sem, ↓reduceIte, Nat.reduceEqDiff, Nat.reduceAdd, Nat.reduceLeDiff]
  refine (specBookOk b hf).callp (.vs (eBook b) .nil) ?_
  have bad : canDep b game = false → deps b game = [] := fun h => by rw [deps, h]; rfl
  cases hok : bookOk b
  · simp -implicitDefEqProofs only [go_sem, ↓reduceIte, Nat.reduceEqDiff, Nat.reduceAdd, Nat.reduceLeDiff]
    have h := bad (by rw [canDep, hok]; rfl)
    exact finK_nilD 1 (by rw [h]; exact ⟨rfl, rfl⟩)
  simp -implicitDefEqProofs only [go_sem, ↓reduceIte, Nat.reduceEqDiff, Nat.reduceAdd, Nat.reduceLeDiff, vGames, w64 (x := (b.games.length : Int) - 1) (by omega) (by omega)]
  refine (l01In game 0 (b.games.length - 1)).callp (.v _ (.v _ (.v _ .nil))) ?_
  cases hte : inB game 0 (b.games.length - 1)
  · simp -implicitDefEqProofs only [go_sem, ↓reduceIte, Nat.reduceEqDiff, Nat.reduceAdd, Nat.reduceLeDiff]
    have h := bad (by rw [canDep, hok, hte]; rfl)
    exact finK_nilD 1 (by rw [h]; exact ⟨rfl, rfl⟩)
  have hcan : canDep b game = true := by rw [canDep, hok, hte]; rfl
  obtain ⟨k0, k1⟩ := inB_iff.1 hte
  have hk : game.toNat < b.games.length := by omega
  have k1' : game < (b.games.length : Int) := by omega
  have hr := rdGd hk
  have hdep : deps b game = keepI (sameR (ranksM (playAt b game.toNat 1)) (ranksM (playAt b game.toNat 2)) (ranksM (playAt b game.toNat 3))) (upTo b.field.length) := by rw [deps, if_pos hcan]
  have hpr : ∀ t : Nat, t < b.field.length → _ := fun t ht => sameR_rank hok hk ht
  simp -implicitDefEqProofs only [go_sem, ↓reduceIte, Nat.reduceEqDiff, Nat.reduceAdd, Nat.reduceLeDiff]
  refine loop_st (S := Nat) (fun i => [(1, DV (vInt game)), (2, DC (.ptr 0 0)), (5, DC (.sl 9 (depO i) 0 i)), (6, DV (vInt (stepT i)))]) (depS b game.toNat) (fun i => 3 - i) (fun i => i ≤ 3) 0 (Nat.zero_le _)
    ⟨rfl, rfl, rfl, rfl, trivial⟩ rfl (Nat.zero_le _) ?_
  intro i hi
  rcases (by omega : i = 0 ∨ i = 1 ∨ i = 2 ∨ i = 3) with rfl | rfl | rfl | rfl
  · simp only [stepT, depS, depO, eBook_eq]
    simp -implicitDefEqProofs only [go_sem, ↓reduceIte, Nat.reduceEqDiff, Nat.reduceAdd, Nat.reduceLeDiff, vInt, Int.reduceLE, decide_true]
    refine (l16Copy b hs).callp (.vs (eBook b) .nil) ?_
    rintro _ _ ⟨rfl, rfl⟩
    rw [shD_book, shB_book]
    simp -implicitDefEqProofs only [go_sem, ↓reduceIte, Nat.reduceEqDiff, Nat.reduceAdd, Nat.reduceLeDiff, memBook, dBookOwn, k0, k1', ↓hr]
    refine (specPlayGame (b.games.getD game.toNat zeroGame) 1).callp (.vs (eGame (b.games.getD game.toNat zeroGame)) (.v _ .nil)) ?_
    have hw := wrGd hk 1
    simp -implicitDefEqProofs only [go_sem, ↓reduceIte, Nat.reduceEqDiff, Nat.reduceAdd, Nat.reduceLeDiff, dGame, k0, k1', ↓hw, cBook, w64 (x := 1 + 1) (by omega) (by omega)]
    exact ⟨by omega, next_of (1) (by omega) (by omega) (Nat.zero_le _) ⟨rfl, rfl, rfl, rfl, trivial⟩ rfl⟩
  · simp only [stepT, depS, depO, eBook_eq]
    simp -implicitDefEqProofs only [go_sem, ↓reduceIte, Nat.reduceEqDiff, Nat.reduceAdd, Nat.reduceLeDiff, vInt, Int.reduceLE, decide_true]
    refine (l16Copy b hs).callp (.vs (eBook b) .nil) ?_
    rintro _ _ ⟨rfl, rfl⟩
    rw [shD_book, shB_book]
    simp -implicitDefEqProofs only [go_sem, ↓reduceIte, Nat.reduceEqDiff, Nat.reduceAdd, Nat.reduceLeDiff, memBook, dBookOwn, k0, k1', ↓hr]
    refine (specPlayGame (b.games.getD game.toNat zeroGame) 2).callp (.vs (eGame (b.games.getD game.toNat zeroGame)) (.v _ .nil)) ?_
    have hw := wrGd hk 2
    simp -implicitDefEqProofs only [go_sem, ↓reduceIte, Nat.reduceEqDiff, Nat.reduceAdd, Nat.reduceLeDiff, dGame, k0, k1', ↓hw, cBook, w64 (x := 2 + 1) (by omega) (by omega)]
    exact ⟨by omega, next_of (2) (by omega) (by omega) (Nat.zero_le _) ⟨rfl, rfl, rfl, rfl, trivial⟩ rfl⟩
  · simp only [stepT, depS, depO, eBook_eq]
    simp -implicitDefEqProofs only [go_sem, ↓reduceIte, Nat.reduceEqDiff, Nat.reduceAdd, Nat.reduceLeDiff, vInt, Int.reduceLE, decide_true]
    refine (l16Copy b hs).callp (.vs (eBook b) .nil) ?_
    rintro _ _ ⟨rfl, rfl⟩
    rw [shD_book, shB_book]
    simp -implicitDefEqProofs only [go_sem, ↓reduceIte, Nat.reduceEqDiff, Nat.reduceAdd, Nat.reduceLeDiff, memBook, dBookOwn, k0, k1', ↓hr]
    refine (specPlayGame (b.games.getD game.toNat zeroGame) 3).callp (.vs (eGame (b.games.getD game.toNat zeroGame)) (.v _ .nil)) ?_
    have hw := wrGd hk 3
    simp -implicitDefEqProofs only [go_sem, ↓reduceIte, Nat.reduceEqDiff, Nat.reduceAdd, Nat.reduceLeDiff, dGame, k0, k1', ↓hw, cBook, w64 (x := 3 + 1) (by omega) (by omega)]
    exact ⟨by omega, next_of (3) (by omega) (by omega) (Nat.zero_le _) ⟨rfl, rfl, rfl, rfl, trivial⟩ rfl⟩
  · simp only [stepT, depS, depO, eBook_eq]
    simp -implicitDefEqProofs only [go_sem, ↓reduceIte, Nat.reduceEqDiff, Nat.reduceAdd, Nat.reduceLeDiff, vInt, Int.reduceLE, decide_false, vTeams]
    have hul := upTo_len b.field.length
    have huk : ∀ (t : Nat) (h : t < (upTo b.field.length).length), (upTo b.field.length)[t] = (t : Int) := upTo_get b.field.length
    rw [hdep]
    generalize hpe : sameR (ranksM (playAt b game.toNat 1)) (ranksM (playAt b game.toNat 2)) (ranksM (playAt b game.toNat 3)) = p at *
    generalize hue : upTo b.field.length = U at *
    refine loop_st (S := Nat × List Blk × Nat) (fun s => [(5, DC (.sl 9 25 0 3)), (8, DC (.sl 1 s.2.2 0 (keepI p (U.take s.1)).length)), (48, DV (vInt b.field.length)), (49, DV (vInt s.1))]) (fun s => s.2.1) (fun s => b.field.length - s.1)
      (fun s => s.1 ≤ b.field.length ∧ s.2.1[s.2.2]? = some (.cells (cOf eInt (keepI p (U.take s.1)))) ∧ s.2.1[25]? = some (.cells (cBook b 2 ++ cBook b 10 ++ cBook b 18)) ∧ HasBook s.2.1 2 (playAt b game.toNat 1) ∧ HasBook s.2.1 10 (playAt b game.toNat 2) ∧ HasBook s.2.1 18 (playAt b game.toNat 3) ∧ 26 ≤ s.2.2)
      (0, _, 26) (Nat.zero_le _) ⟨rfl, rfl, rfl, rfl, trivial⟩ rfl ⟨Nat.zero_le _, rfl, rfl, HasBook.of rfl rfl rfl rfl rfl, HasBook.of rfl rfl rfl rfl rfl, HasBook.of rfl rfl rfl rfl rfl, Nat.le_refl _⟩ ?_
    rintro ⟨t, m, id⟩ ⟨ht, hid, hO, hb1, hb2, hb3, hi26⟩
    simp only at ht hid hO hb1 hb2 hb3 hi26 ⊢
    have c0 : rdm m 25 (0 + Int.toNat 0 * 9) 9 = some (cBook b 2) := by unfold rdm; rw [hO]; rfl
    have c1 : rdm m 25 (0 + Int.toNat 1 * 9) 9 = some (cBook b 10) := by unfold rdm; rw [hO]; rfl
    have c2 : rdm m 25 (0 + Int.toNat 2 * 9) 9 = some (cBook b 18) := by unfold rdm; rw [hO]; rfl
    have f0 : (0 : Int) < ((3 : Nat) : Int) := by omega
    have f1 : (1 : Int) < ((3 : Nat) : Int) := by omega
    have f2 : (2 : Int) < ((3 : Nat) : Int) := by omega
    have g0 : (0 : Int) ≤ 0 := by omega
    have g1 : (0 : Int) ≤ 1 := by omega
    have g2 : (0 : Int) ≤ 2 := by omega
    simp -implicitDefEqProofs only [go_sem, ↓reduceIte, Nat.reduceEqDiff, Nat.reduceAdd, Nat.reduceLeDiff, vInt]
    refine condA_dec (fun h => ?_) (fun h => ?_)
    · have hlt : t < b.field.length := by omega
      have hp1 := hpr t hlt
      have hks := keepI_succ p U (show t < U.length by omega)
      rw [huk t (by omega)] at hks
      have hR1 := specRankOf (playAt b game.toNat 1) (playAt_fits hf) hn t
      have hR2 := specRankOf (playAt b game.toNat 2) (playAt_fits hf) hn t
      have hR3 := specRankOf (playAt b game.toNat 3) (playAt_fits hf) hn t
      generalize rankOfM (playAt b game.toNat 1) t = x at *
      generalize rankOfM (playAt b game.toNat 2) t = y at *
      generalize rankOfM (playAt b game.toNat 3) t = z at *
      have hidl : id < m.length := (List.getElem?_eq_some_iff.1 hid).1
      have hkl : (keepI p (U.take t)).length ≤ t := Nat.le_trans (keepI_len _ _) (by rw [List.length_take]; omega)
      have q1 : rdm (m ++ [Blk.cells [C.v (V.int .i64 (t : Int))]]) m.length 0 (1 * 1) = some [C.v (V.int .i64 (t : Int))] := rdm_all (by rw [List.getElem?_append_right (Nat.le_refl _), Nat.sub_self]; rfl) rfl
      have q2 : popm (m ++ [Blk.cells [C.v (V.int .i64 (t : Int))]]) id ((keepI p (U.take t)).length * 1) = some (cOf eInt (keepI p (U.take t)), (m ++ [Blk.cells [C.v (V.int .i64 (t : Int))]]).set id .hole) := popm_of _ _ _ _ (by rw [List.getElem?_append_left hidl]; exact hid) (flat_len eInt 1 (fun _ => rfl) _)
      have keepB : ∀ (i : Nat) (B : Book) (X : List Blk), i + 5 ≤ id → HasBook m i B → HasBook ((m ++ [Blk.cells [C.v (V.int .i64 (t : Int))]]).set id .hole ++ X) i B := fun i B X h hB j k hj => by
        have h1 := hB j k hj
        have h2 : j < 5 := (List.getElem?_eq_some_iff.1 hj).1
        rw [List.getElem?_append_left (by simp; omega), List.getElem?_set_ne (by omega), List.getElem?_append_left (by omega)]; exact h1
      have hks1 : p t = false → keepI p (U.take (t + 1)) = keepI p (U.take t) ++ [(t : Int)] := fun hpt => by rw [hks, hpt]; rfl
      have hks0 : p t = true → keepI p (U.take (t + 1)) = keepI p (U.take t) := fun hpt => by rw [hks, hpt]; simp
      have hinv : p t = false → (t + 1 ≤ b.field.length ∧ ((m ++ [Blk.cells [C.v (V.int .i64 (t : Int))]]).set id .hole ++ [Blk.cells (cOf eInt (keepI p (U.take t)) ++ [C.v (V.int .i64 (t : Int))])])[m.length + 1]? = some (.cells (cOf eInt (keepI p (U.take (t + 1))))) ∧ ((m ++ [Blk.cells [C.v (V.int .i64 (t : Int))]]).set id .hole ++ [Blk.cells (cOf eInt (keepI p (U.take t)) ++ [C.v (V.int .i64 (t : Int))])])[25]? = some (.cells (cBook b 2 ++ cBook b 10 ++ cBook b 18)) ∧ HasBook ((m ++ [Blk.cells [C.v (V.int .i64 (t : Int))]]).set id .hole ++ [Blk.cells (cOf eInt (keepI p (U.take t)) ++ [C.v (V.int .i64 (t : Int))])]) 2 (playAt b game.toNat 1) ∧ HasBook ((m ++ [Blk.cells [C.v (V.int .i64 (t : Int))]]).set id .hole ++ [Blk.cells (cOf eInt (keepI p (U.take t)) ++ [C.v (V.int .i64 (t : Int))])]) 10 (playAt b game.toNat 2) ∧ HasBook ((m ++ [Blk.cells [C.v (V.int .i64 (t : Int))]]).set id .hole ++ [Blk.cells (cOf eInt (keepI p (U.take t)) ++ [C.v (V.int .i64 (t : Int))])]) 18 (playAt b game.toNat 3) ∧ 26 ≤ m.length + 1) := fun hpt => by
        refine ⟨by omega, ?_, ?_, keepB 2 _ _ (by omega) hb1, keepB 10 _ _ (by omega) hb2, keepB 18 _ _ (by omega) hb3, by omega⟩
        · rw [List.getElem?_append_right (by simp), hks1 hpt, cOf_append, cOf_one]
          simp [eInt]
        · rw [List.getElem?_append_left (by simp; omega), List.getElem?_set_ne (by omega), List.getElem?_append_left (by omega)]; exact hO
      have hap : ∀ q : p t = false, (DC (.sl 1 (m.length + 1) 0 ((keepI p (U.take t)).length + 1)) = DC (.sl 1 (m.length + 1) 0 (keepI p (U.take (t + 1))).length)) := fun q => by rw [hks1 q, List.length_append]; rfl
      have hw1 := w64s (show t < 4611686018427387904 by omega)
      simp -implicitDefEqProofs only [go_sem, ↓reduceIte, Nat.reduceEqDiff, Nat.reduceAdd, Nat.reduceLeDiff, f0, f1, f2, g0, g1, g2, ↓c0, ↓c1, ↓c2]
      refine hR1.call (br := true) ⟨Vw.bookAt (i := 2) hb1, Vw.v _, trivial⟩ (fun _ => rfl) ?_
      simp -implicitDefEqProofs only [go_sem, ↓reduceIte, Nat.reduceEqDiff, Nat.reduceAdd, Nat.reduceLeDiff, f0, f1, f2, g0, g1, g2, ↓c0, ↓c1, ↓c2]
      refine hR2.call (br := true) ⟨Vw.bookAt (i := 10) hb2, Vw.v _, trivial⟩ (fun _ => rfl) ?_
      by_cases h1 : y = x
      · subst h1
        simp -implicitDefEqProofs only [go_sem, ↓reduceIte, Nat.reduceEqDiff, Nat.reduceAdd, Nat.reduceLeDiff, f0, f1, f2, g0, g1, g2, ↓c0, ↓c1, ↓c2]
        refine hR3.call (br := true) ⟨Vw.bookAt (i := 18) hb3, Vw.v _, trivial⟩ (fun _ => rfl) ?_
        by_cases h2 : z = y
        · have hpt : p t = true := by
            rw [h2] at hp1; simpa using hp1
          simp -implicitDefEqProofs only [go_sem, ↓reduceIte, Nat.reduceEqDiff, Nat.reduceAdd, Nat.reduceLeDiff, h2, hw1]
          exact next_of (s := ((t, m, id) : Nat × List Blk × Nat)) (t + 1, m, id) (by show b.field.length - (t + 1) < b.field.length - t; omega) ⟨by show t + 1 ≤ _; omega, by rw [hks0 hpt]; exact hid, hO, hb1, hb2, hb3, hi26⟩ (Nat.zero_le _) ⟨rfl, by rw [hks0 hpt]; rfl, rfl, rfl, trivial⟩ rfl
        · have hpt : p t = false := by
            simpa [h2] using hp1
          simp -implicitDefEqProofs only [go_sem, ↓reduceIte, Nat.reduceEqDiff, Nat.reduceAdd, Nat.reduceLeDiff, h2, hw1, ↓q1, ↓q2, List.length_set, List.length_append, List.length_cons, List.length_nil, Nat.zero_add]
          refine ⟨by omega, next_of (s := ((t, m, id) : Nat × List Blk × Nat)) (t + 1, _, m.length + 1) (by show b.field.length - (t + 1) < b.field.length - t; omega) (hinv hpt) (Nat.zero_le _) ⟨rfl, hap hpt, rfl, rfl, trivial⟩ rfl⟩
      · have hpt : p t = false := by
          simpa [h1] using hp1
        simp -implicitDefEqProofs only [go_sem, ↓reduceIte, Nat.reduceEqDiff, Nat.reduceAdd, Nat.reduceLeDiff, h1, hw1, ↓q1, ↓q2, List.length_set, List.length_append, List.length_cons, List.length_nil, Nat.zero_add]
        refine ⟨by omega, next_of (s := ((t, m, id) : Nat × List Blk × Nat)) (t + 1, _, m.length + 1) (by show b.field.length - (t + 1) < b.field.length - t; omega) (hinv hpt) (Nat.zero_le _) ⟨rfl, hap hpt, rfl, rfl, trivial⟩ rfl⟩
    · simp -implicitDefEqProofs only [go_sem, ↓reduceIte, Nat.reduceEqDiff, Nat.reduceAdd, Nat.reduceLeDiff]
      have hte : t = b.field.length := by omega
      have htk : U.take t = U := by rw [hte, ← hul, List.take_length]
      rw [htk] at hid ⊢
      exact finK_head (B := keepI p U) hid List.take_length rfl ⟨rfl, rfl⟩

end Go.Proofs.YtmfmiobehjgeiaaGreat.Ab

namespace Go.Proofs.YtmfmiobehjgeiaaGreat.Ab
open Go

theorem deps_len (b : Book) (hs : Small b) (game : Int) : (deps b game).length ≤ 1048576 := by
  have := hs.field
  unfold deps; split
  · exact Nat.le_trans (keepI_len _ _) (by rw [upTo_len]; omega)
  · simp

theorem lawDependent (b : Book) (hf : Fits b) (game : Int) : AFun Tryz.prog F.laws_FnExactDependentTeams [dBook b, DV (vInt game)] [] fun d _ => d = DV (.bool true) := by
  refine AFun.intro k_laws_FnExactDependentTeams (by simp) ?_
  unfold c_laws_FnExactDependentTeams
  simp only [argE, Nat.reduceAdd]
  simp only [dBook, eBook_eq]
  simp -implicitDefEqProofs only [go_sem, ↓reduceIte, Nat.reduceEqDiff, Nat.reduceAdd, Nat.reduceLeDiff]
  refine (szBook b 1048576 (by omega) (by omega) hf).callp (.vs (eBook b) (.v _ .nil)) ?_
  by_cases hz : (1048576 : Int) < szB b
  · rw [if_pos hz]
    simp -implicitDefEqProofs only [go_sem, ↓reduceIte, Nat.reduceEqDiff, Nat.reduceAdd, Nat.reduceLeDiff, Int.reduceLT]
    exact finK_v rfl
  rw [if_neg hz]
  have hs : Small b := Small.of (by omega)
  have hz' : ¬ (1048576 - (szB b : Int) < 0) := by omega
  have hmk := mk5_small hs
  have hL := deps_len b hs game
  simp -implicitDefEqProofs only [go_sem, ↓reduceIte, Nat.reduceEqDiff, Nat.reduceAdd, Nat.reduceLeDiff, hz']
  refine (toBook b hs).callp (.vs (eBook b) .nil) ?_
  rintro _ _ ⟨rfl, rfl⟩
  rw [shD_book, shB_book]
  simp -implicitDefEqProofs only [go_sem, ↓reduceIte, Nat.reduceEqDiff, Nat.reduceAdd, Nat.reduceLeDiff]
  have hspec : AFun Tryz.prog F.spec_DependentTeams [dBook b, DV (vInt game)] [] fun d m => d = DC (.sl 1 0 0 (deps b game).length) ∧ m = [.cells (cOf eInt (deps b game))] := specDependent b hf hs game
  refine hspec.callb ⟨Vw.book (HasBook.tail [_] [] _), Vw.v _, trivial⟩ (fun d m' ⟨h1, h2⟩ => by subst h1; subst h2; exact ⟨rfl, by simp only [List.all_cons, List.all_nil, Bool.and_true]; exact noRo_cOf _ (fun _ => rfl) _⟩) ?_
  rintro _ _ ⟨rfl, rfl⟩
  have himpl : ∀ (m : List Blk) (K : D → List Blk → Prop) (i : Nat), HasBook m i b → (∀ d m', (d = DC (.sl 1 0 0 (deps b game).length) ∧ m' = [Blk.cells (cOf eInt (deps b game))]) → K (shD m.length d) (m ++ m'.map (shB m.length))) → AFunG Tryz.prog false F.impl_DependentTeams [dBookOwn b i, DV (vInt game)] m K := fun m K i hb hq => (implDependent b hf hs game).callb ⟨Vw.book (i := i) hb, Vw.v _, trivial⟩ (fun d m' ⟨h1, h2⟩ => by subst h1; subst h2; exact ⟨rfl, by simp only [List.all_cons, List.all_nil, Bool.and_true]; exact noRo_cOf _ (fun _ => rfl) _⟩) hq
  generalize deps b game = l at *
  simp -implicitDefEqProofs only [go_sem, ↓reduceIte, Nat.reduceEqDiff, Nat.reduceAdd, Nat.reduceLeDiff, memBook, dBookOwn, shB_cells, shC_cOf]
  refine (toBook b hs).callp (.vs (eBook b) .nil) ?_
  rintro _ _ ⟨rfl, rfl⟩
  rw [shD_book, shB_book]
  simp -implicitDefEqProofs only [go_sem, ↓reduceIte, Nat.reduceEqDiff, Nat.reduceAdd, Nat.reduceLeDiff, memBook, dBookOwn]
  refine himpl _ _ 7 (HasBook.of rfl rfl rfl rfl rfl) ?_
  rintro _ _ ⟨rfl, rfl⟩
  simp -implicitDefEqProofs only [go_sem, ↓reduceIte, Nat.reduceEqDiff, Nat.reduceAdd, Nat.reduceLeDiff, shB_cells, shC_cOf]
  refine (eqIntS l l (by omega)).call (br := true) ⟨Vw.ints (l := l) rfl rfl, Vw.ints (l := l) rfl rfl, trivial⟩ (fun _ => rfl) ?_
  simp -implicitDefEqProofs only [go_sem, ↓reduceIte, Nat.reduceEqDiff, Nat.reduceAdd, Nat.reduceLeDiff, decide_true, beq_self_eq_true, bne_self_eq_false]
  refine (toBook b hs).callp (.vs (eBook b) .nil) ?_
  rintro _ _ ⟨rfl, rfl⟩
  rw [shD_book, shB_book]
  simp -implicitDefEqProofs only [go_sem, ↓reduceIte, Nat.reduceEqDiff, Nat.reduceAdd, Nat.reduceLeDiff, memBook, dBookOwn]
  refine (eqBook b b hf.field hf.ladder hf.games hf.fair hf.taken).call (br := true) ⟨Vw.book (i := 7) (HasBook.of rfl rfl rfl rfl rfl), Vw.book (i := 14) (HasBook.of rfl rfl rfl rfl rfl), trivial⟩ (fun _ => rfl) ?_
  simp -implicitDefEqProofs only [go_sem, ↓reduceIte, Nat.reduceEqDiff, Nat.reduceAdd, Nat.reduceLeDiff, decide_true]
  refine handMark (b := b) (i := 7) (k := 1) (HasBook.of rfl rfl rfl rfl rfl) (by omega) hmk ?_
  have hnn : ¬ (((mk5 b 1 : Nat) : Int) < 0) := by omega
  simp -implicitDefEqProofs only [go_sem, ↓reduceIte, Nat.reduceEqDiff, Nat.reduceAdd, Nat.reduceLeDiff, memBook, setB, hnn]
  refine (eqIntS l l (by omega)).call (br := true) ⟨Vw.ints (l := l) rfl rfl, Vw.ints (l := l) rfl rfl, trivial⟩ (fun _ => rfl) ?_
  simp -implicitDefEqProofs only [go_sem, ↓reduceIte, Nat.reduceEqDiff, Nat.reduceAdd, Nat.reduceLeDiff, decide_true, beq_self_eq_true, bne_self_eq_false]
  refine hand1 (markIntS l 1 (by omega)) rfl (.v _ .nil) ?_
  rintro _ _ ⟨rfl, rfl⟩
  refine ⟨_, _, rfl, rfl, ?_⟩
  have hml : (marksI 1 l.length).length = l.length := by simp [marksI]
  have hheld := heldIntS (marksI 1 l.length) 1 (by omega)
  rw [hml, if_pos rfl] at hheld
  have hq0 : ¬ (((1 + l.length : Nat) : Int) < 0) := by omega
  simp -implicitDefEqProofs only [go_sem, ↓reduceIte, Nat.reduceEqDiff, Nat.reduceAdd, Nat.reduceLeDiff, vInt]
  refine hheld.call (br := true) ⟨Vw.ints (l := marksI 1 l.length) rfl hml.symm, Vw.v _, trivial⟩ (fun _ => rfl) ?_
  simp -implicitDefEqProofs only [go_sem, ↓reduceIte, Nat.reduceEqDiff, Nat.reduceAdd, Nat.reduceLeDiff, vInt, hq0, bne_self_eq_false]
  refine (toBook b hs).callp (.vs (eBook b) .nil) ?_
  rintro _ _ ⟨rfl, rfl⟩
  rw [shD_book, shB_book]
  simp -implicitDefEqProofs only [go_sem, ↓reduceIte, Nat.reduceEqDiff, Nat.reduceAdd, Nat.reduceLeDiff, memBook, dBookOwn]
  refine himpl _ _ 19 (HasBook.of rfl rfl rfl rfl rfl) ?_
  rintro _ _ ⟨rfl, rfl⟩
  simp -implicitDefEqProofs only [go_sem, ↓reduceIte, Nat.reduceEqDiff, Nat.reduceAdd, Nat.reduceLeDiff, shB_cells, shC_cOf]
  refine (eqIntS l l (by omega)).call (br := true) ⟨Vw.ints (l := l) rfl rfl, Vw.ints (l := l) rfl rfl, trivial⟩ (fun _ => rfl) ?_
  simp -implicitDefEqProofs only [go_sem, ↓reduceIte, Nat.reduceEqDiff, Nat.reduceAdd, Nat.reduceLeDiff, decide_true, beq_self_eq_true, bne_self_eq_false]
  refine hheld.call (br := true) ⟨Vw.ints (l := marksI 1 l.length) rfl hml.symm, Vw.v _, trivial⟩ (fun _ => rfl) ?_
  simp -implicitDefEqProofs only [go_sem, ↓reduceIte, Nat.reduceEqDiff, Nat.reduceAdd, Nat.reduceLeDiff, vInt, hq0, bne_self_eq_false]
  exact finK_v rfl

end Go.Proofs.YtmfmiobehjgeiaaGreat.Ab
