/- A contract that knows nothing of the caller's memory, used at a call; own slices read as read-only data there. How the small machine is walked: its rules as rewrite rules, outermost first; what comes next stands as a partial application, so that no rule works under a binder. How the small machine is walked, second part: memory, results, calls. Results given up for good: own slices read as data from then on. A call that hands some of the caller's own memory over, and gets it back. Loops by a state; whole numbers that stay in range; data. The numbers of the functions. The compact code of functions, and that it is theirs. -/
import Derived.Test.YtneiicadhjdbiaaGreatAbP0
import Derived.Test.YtneiicadhjdbiaaGreatProg
import Derived.KernelRfl
set_option linter.unusedVariables false
set_option linter.unusedSimpArgs false

namespace Go.Proofs.YtneiicadhjdbiaaGreat.Ab
open Go

def shC (n : Nat) : C → C := renC fun id => id + n
def shT (n : Nat) : T → T
  | .c x => .c (shC n x)
  | .agg cs => .agg (cs.map (shC n))
def shD (n : Nat) : D → D
  | .t x => .t (shT n x)
  | .tup xs => .tup (xs.map (shT n))
  | x => x
def shB (n : Nat) : Blk → Blk
  | .cells cs => .cells (cs.map (shC n))
  | .hole => .hole

/-- No read-only memory is in it. -/
def noRoC : C → Bool
  | .v (.ro _ es) => es.isEmpty
  | .rptr _ => false
  | _ => true
def noRoT : T → Bool
  | .c x => noRoC x
  | .agg cs => cs.all noRoC
def noRoD : D → Bool
  | .t x => noRoT x
  | .tup xs => xs.all noRoT
  | _ => true
def noRoB : Blk → Bool
  | .cells cs => cs.all noRoC
  | .hole => true

/-- How d reads as d0 for a callee; br: some of it is the caller's own. -/
def Vw (mem : List Blk) (br : Bool) (d d0 : D) : Prop :=
  ∀ (X : Nat → Prop) (σ : Sg) (w : World) (v : Value), MemOk X σ mem w → RepD σ (Lv X σ mem) w v d → RepD (fun _ => none) (if br = true then fun _ => False else Lv X σ mem) w v d0
def VwC (mem : List Blk) (br : Bool) (x : C) (y : V) : Prop :=
  ∀ (X : Nat → Prop) (σ : Sg) (w : World) (v : Value), MemOk X σ mem w → RepC σ (Lv X σ mem) w v x → RepV (if br = true then fun _ => False else Lv X σ mem) w v y
def VwCs (mem : List Blk) (br : Bool) : List C → List V → Prop
  | [], [] => True
  | x :: r, y :: s => VwC mem br x y ∧ VwCs mem br r s
  | _, _ => False
def Vws (mem : List Blk) (br : Bool) : List D → List D → Prop
  | [], [] => True
  | x :: r, y :: s => Vw mem br x y ∧ Vws mem br r s
  | _, _ => False

section
variable {P : Program} {X : Nat → Prop} {σ : Sg} {mem : List Blk} {w : World} {br : Bool}

theorem repV_br {v : Value} {y : V} (h : RepV (Lv X σ mem) w v y) : RepV (if br = true then fun _ => False else Lv X σ mem) w v y :=
  RepV.mono (Nat.le_refl _) (fun b _ hb => ⟨fun h => by cases br with | true => exact h | false => exact hb h, rfl⟩) h

theorem VwC.v (y : V) : VwC mem br (.v y) y := fun _ _ _ _ _ h => repV_br h

theorem Vw.v (y : V) : Vw mem br (DV y) (DV y) := fun _ _ _ _ _ h => repV_br (show RepV _ _ _ _ from h)

theorem Vw.c {x : C} {y : V} (h : VwC mem br x y) : Vw mem br (DC x) (DV y) := fun X σ w v hm hr => h X σ w v hm hr

theorem vwCs_get : ∀ {a : List C} {b : List V}, VwCs mem br a b → a.length = b.length ∧ ∀ {j : Nat} {y : V}, b[j]? = some y → ∃ x, a[j]? = some x ∧ VwC mem br x y
  | [], [], _ => ⟨rfl, fun hj => by simp at hj⟩
  | x :: r, y :: s, h => ⟨by simp [(vwCs_get h.2).1], fun {j z} hj => by
      cases j with
      | zero => simp at hj; subst hj; exact ⟨x, rfl, h.1⟩
      | succ j => simp at hj; obtain ⟨u, h1, h2⟩ := (vwCs_get h.2).2 hj; exact ⟨u, by simpa using h1, h2⟩⟩
  | [], _ :: _, h => h.elim
  | _ :: _, [], h => h.elim

theorem Vw.agg {cs : List C} {ys : List V} (h : VwCs mem br cs ys) : Vw mem br (DA cs) (DA (ys.map .v)) := fun X σ w v hm hr => by
  obtain ⟨vs, h1, h2, h3⟩ := hr
  obtain ⟨q1, q2⟩ := vwCs_get h
  refine ⟨vs, h1, by simp [h2, q1], fun i y hy => ?_⟩
  simp only [List.getElem?_map, Option.map_eq_some_iff] at hy
  obtain ⟨z, hz, rfl⟩ := hy
  obtain ⟨x, r1, r2⟩ := q2 hz
  obtain ⟨u, p1, p2⟩ := h3 i x r1
  exact ⟨u, p1, r2 X σ w u hm p2⟩

theorem VwCs.vs : ∀ (ys : List V), VwCs mem br (ys.map .v) ys
  | [] => trivial
  | y :: r => ⟨VwC.v y, VwCs.vs r⟩

/-- An own slice read as data: its cells, element by element. -/
theorem VwC.sl {sz id off len : Nat} {cs : List C} {es : List (List V)} (hcs : rdm mem id off (len * sz) = some cs) (hlen : es.length = len) (hsz : ∀ c ∈ es, c.length = sz) (hpos : 0 < sz)
    (hv : VwCs mem true cs es.flatten) : VwC mem true (.sl sz id off len) (.ro sz es) := fun X σ w v hm hr => by
  show RepV (fun _ => False) w v _
  rcases hr with ⟨_, rfl, A, rfl⟩ | ⟨b, N, cap, h1, rfl, h2, h3⟩
  · have : es = [] := List.eq_nil_of_length_eq_zero hlen
    subst this
    exact .roE _ _ _
  · obtain ⟨vs, q1, q2, q3⟩ := own_cells hm h1 hcs
    have hsz' : ∀ (i : Nat) (c : List V), es[i]? = some c → c.length = sz := fun i c hi => hsz c (List.mem_of_getElem? hi)
    obtain ⟨r1, r2⟩ := vwCs_get hv
    have key : ∀ (i : Nat) (c : List V), es[i]? = some c → ∀ (j : Nat) (x : V), c[j]? = some x → ∃ u, vs[i * sz + j]? = some u ∧ RepV (fun _ => False) w u x := fun i c hi j x hj => by
      have hjs : j < sz := by rw [← hsz' i c hi]; exact (List.getElem?_eq_some_iff.1 hj).1
      have hfl : es.flatten[i * sz + j]? = some x := by
        rw [flatten_get hpos es _ hsz']
        have e1 : (i * sz + j) / sz = i := by rw [Nat.mul_comm, Nat.mul_add_div hpos, Nat.div_eq_of_lt hjs, Nat.add_zero]
        have e2 : (i * sz + j) % sz = j := by rw [Nat.mul_comm, Nat.mul_add_mod, Nat.mod_eq_of_lt hjs]
        rw [e1, e2, hi]; exact hj
      obtain ⟨y, p1, p2⟩ := r2 hfl
      obtain ⟨u, s1, s2⟩ := q2.2 _ y p1
      exact ⟨u, s1, by have := p2 X σ w u hm s2; simpa using this⟩
    have hb : b < w.heap.size := by
      by_cases h0 : len = 0
      · unfold rdm at hcs
        split at hcs
        · rename_i all hall
          exact own_lt hm ⟨id, all, N, hall, h1⟩
        · cases hcs
      · have hpos' : 0 < len * sz := Nat.mul_pos (by omega) hpos
        have h0v : 0 < vs.length := by omega
        exact cell?_lt (q3 0 vs[0] (List.getElem?_eq_getElem h0v))
    refine .ro b off len cap sz es (fun i j => vs.getD (i * sz + j) undef) hlen h2 hb (fun h => h) hsz' (fun i c hi j x hj => ?_) (fun i c hi j x hj => ?_)
    · obtain ⟨u, s1, _⟩ := key i c hi j x hj
      have e : vs.getD (i * sz + j) undef = u := by simp [s1]
      rw [e, Nat.add_assoc]
      exact q3 _ u s1
    · obtain ⟨u, s1, s2⟩ := key i c hi j x hj
      have e : vs.getD (i * sz + j) undef = u := by simp [s1]
      rw [e]; exact s2

theorem vws_rep (hm : MemOk X σ mem w) : ∀ {ds ds0 : List D} {vs : List Value}, Vws mem br ds ds0 → RepDs σ (Lv X σ mem) w vs ds → RepDs (fun _ => none) (if br = true then fun _ => False else Lv X σ mem) w vs ds0
  | [], [], vs, _, h => ⟨h.1, fun i d hd => by simp at hd⟩
  | x :: r, y :: s, vs, hv, h => by
    obtain ⟨h1, h2⟩ := h
    cases vs with
    | nil => simp at h1
    | cons u us =>
      have := vws_rep hm (vs := us) hv.2 ⟨by simpa using h1, fun i d hd => by simpa using h2 (i + 1) d (by simpa using hd)⟩
      refine ⟨by simp [this.1], fun i d hd => ?_⟩
      cases i with
      | zero =>
        simp at hd; subst hd
        obtain ⟨u', q1, q2⟩ := h2 0 x rfl
        simp at q1; subst q1
        exact ⟨u, rfl, hv.1 X σ w u hm q2⟩
      | succ i => simp at hd; simpa using this.2 i d hd
  | [], _ :: _, _, hv, _ => hv.elim
  | _ :: _, [], _, hv, _ => hv.elim

theorem repC_sh {n : Nat} {σ1 σ2 : Sg} {L1 L2 : Nat → Prop} (hσ : ∀ id, σ1 id ≠ none → σ2 (id + n) = σ1 id) {v : Value} {x : C} (hL : (∀ b, L2 b → L1 b) ∨ noRoC x = true) (h : RepC σ1 L1 w v x) : RepC σ2 L2 w v (shC n x) := by
  cases x with
  | v y =>
    rcases hL with hL | hL
    · exact RepV.mono (Nat.le_refl _) (fun b _ hb => ⟨fun h => hb (hL b h), rfl⟩) h
    · cases y with
      | int k i => cases h; exact .int _ _
      | bool b => cases h; exact .bool _
      | str s => cases h; exact .str _
      | ro sz es =>
        have : es = [] := List.isEmpty_iff.1 hL
        subst this
        obtain ⟨A, cap, rfl, _⟩ := repV_ro h
        exact .roE _ _ _
  | nil => exact h
  | sl sz id off len =>
    rcases h with ⟨h0, h⟩ | ⟨b, N, cap, h1, h2⟩
    · exact .inl ⟨by rw [hσ id h0]; exact h0, h⟩
    · exact .inr ⟨b, N, cap, by rw [hσ id (by rw [h1]; simp)]; exact h1, h2⟩
  | ptr id off => obtain ⟨b, N, h1, h2⟩ := h; exact ⟨b, N, by rw [hσ id (by rw [h1]; simp)]; exact h1, h2⟩
  | rptr cs =>
    rcases hL with hL | hL
    · obtain ⟨b, off, val, h1, h2, h3, h4⟩ := h
      exact ⟨b, off, val, h1, h2, fun h => h3 (hL b h), fun j x hj => ⟨(h4 j x hj).1, RepV.mono (Nat.le_refl _) (fun b _ hb => ⟨fun h => hb (hL b h), rfl⟩) (h4 j x hj).2⟩⟩
    · cases hL
  | nptr => exact h
  | fn f caps =>
    obtain ⟨vs, h1, h2, h3⟩ := h
    refine ⟨vs, h1, by simpa using h2, fun i p hp => ?_⟩
    simp only [List.getElem?_map, Option.map_eq_some_iff] at hp
    obtain ⟨q, hq, rfl⟩ := hp
    obtain ⟨b, N, k1, k2⟩ := h3 i q hq
    exact ⟨b, N, by show σ2 (q.1 + n) = _; rw [hσ q.1 (by rw [k1]; simp)]; exact k1, k2⟩
  | any => exact h

theorem repT_sh {n : Nat} {σ1 σ2 : Sg} {L1 L2 : Nat → Prop} (hσ : ∀ id, σ1 id ≠ none → σ2 (id + n) = σ1 id) {v : Value} {x : T} (hL : (∀ b, L2 b → L1 b) ∨ noRoT x = true) (h : RepT σ1 L1 w v x) : RepT σ2 L2 w v (shT n x) := by
  cases x with
  | c x => exact repC_sh hσ hL h
  | agg cs =>
    obtain ⟨vs, h1, h2, h3⟩ := h
    refine ⟨vs, h1, by simpa using h2, fun i y hy => ?_⟩
    simp only [List.getElem?_map, Option.map_eq_some_iff] at hy
    obtain ⟨z, hz, rfl⟩ := hy
    obtain ⟨u, q1, q2⟩ := h3 i z hz
    exact ⟨u, q1, repC_sh hσ (hL.imp id fun h => List.all_eq_true.1 h z (List.mem_of_getElem? hz)) q2⟩

theorem repD_sh {n : Nat} {σ1 σ2 : Sg} {L1 L2 : Nat → Prop} (hσ : ∀ id, σ1 id ≠ none → σ2 (id + n) = σ1 id) {v : Value} {x : D} (hL : (∀ b, L2 b → L1 b) ∨ noRoD x = true) (h : RepD σ1 L1 w v x) : RepD σ2 L2 w v (shD n x) := by
  cases x with
  | t x => exact repT_sh hσ hL h
  | tup xs =>
    obtain ⟨vs, h1, h2, h3⟩ := h
    refine ⟨vs, h1, by simpa using h2, fun i y hy => ?_⟩
    simp only [List.getElem?_map, Option.map_eq_some_iff] at hy
    obtain ⟨z, hz, rfl⟩ := hy
    obtain ⟨u, q1, q2⟩ := h3 i z hz
    exact ⟨u, q1, repT_sh hσ (hL.imp id fun h => List.all_eq_true.1 h z (List.mem_of_getElem? hz)) q2⟩
  | und => exact h
  | any => trivial

/-- A contract that knows nothing of the caller's memory, at a call. -/
theorem AFunG.frame {g : Bool} {f : Nat} {ds ds0 : List D} {Q0 Q : D → List Blk → Prop} (h : AFun P f ds0 [] Q0) (hv : Vws mem br ds ds0)
    (hq : ∀ d m, Q0 d m → (br = true → noRoD d = true ∧ m.all noRoB = true) ∧ Q (shD mem.length d) (mem ++ m.map (shB mem.length))) : AFunG P g f ds mem Q := by
  intro X σ w vs hm hr
  have hX : ∀ b, (if br = true then fun _ => False else Lv X σ mem) b → b < w.heap.size := fun b hb => by
    cases br with
    | true => exact hb.elim
    | false => exact lv_lt hm hb
  have hno : ∀ b, ¬ Own (fun _ => none) [] b := fun b ⟨id, cs, N, h1, _⟩ => by simp at h1
  have hm0 : MemOk (if br = true then fun _ => False else Lv X σ mem) (fun _ => none) [] w :=
    ⟨fun id cs hid => by simp at hid, fun id id' b N N' cs cs' h1 => by simp at h1, fun b hb => ⟨hX b hb, hno b⟩, fun _ _ => rfl⟩
  have hLv0 : Lv (if br = true then fun _ => False else Lv X σ mem) (fun _ => none) [] = (if br = true then fun _ => False else Lv X σ mem) := by
    funext b; apply propext; exact ⟨fun h => h.elim (fun h => h) fun h => (hno b h).elim, .inl⟩
  refine (h _ _ w vs hm0 (by rw [hLv0]; exact vws_rep hm hv hr)).mono ?_
  rintro e w' ⟨v, d, m1, σ1, rfl, hQ, hrep, hok, tr, _⟩
  obtain ⟨hnr, hQ⟩ := hq d m1 hQ
  have hkeep : ∀ b, b < w.heap.size → w'.heap[b]? = w.heap[b]? := fun b hb => tr.keep b hb (hno b)
  have hnew : ∀ b, Own σ1 m1 b → w.heap.size ≤ b := fun b hb => (tr.own b hb).elim (fun h => (hno b h).elim) id
  let n := mem.length
  let σ2 : Sg := fun id => if id < n then σ id else σ1 (id - n)
  have s1 : ∀ id, id < n → σ2 id = σ id := fun id h => if_pos h
  have s2 : ∀ id, σ2 (id + n) = σ1 id := fun id => by show (if id + n < n then _ else _) = _; rw [if_neg (by omega), Nat.add_sub_cancel]
  have get : ∀ id cs, (mem ++ m1.map (shB n))[id]? = some (.cells cs) → (id < n ∧ mem[id]? = some (.cells cs)) ∨ (n ≤ id ∧ ∃ cs0, m1[id - n]? = some (.cells cs0) ∧ cs = cs0.map (shC n)) := fun id cs h => by
    rw [List.getElem?_append] at h
    split at h
    · rename_i hlt; exact .inl ⟨hlt, h⟩
    · rename_i hge
      simp only [List.getElem?_map, Option.map_eq_some_iff] at h
      obtain ⟨b, hb, hc⟩ := h
      cases b with
      | cells cs0 => cases hc; exact .inr ⟨by omega, cs0, hb, rfl⟩
      | hole => cases hc
  have hown : ∀ b, Own σ2 (mem ++ m1.map (shB n)) b → Own σ mem b ∨ Own σ1 m1 b := fun b ⟨id, cs, N, h1, h2⟩ => by
    rcases get id cs h1 with ⟨k1, k2⟩ | ⟨k1, cs0, k2, _⟩
    · rw [s1 id k1] at h2; exact .inl ⟨id, cs, N, k2, h2⟩
    · have : σ2 id = σ1 (id - n) := if_neg (by omega)
      rw [this] at h2; exact .inr ⟨id - n, cs0, N, k2, h2⟩
  have tr2 : Tr n σ mem w σ2 (mem ++ m1.map (shB n)) w' := ⟨fun id hid => s1 id hid, tr.os, tr.tape, tr.output, tr.size, fun b hb _ => hkeep b hb, fun b hb => (hown b hb).imp id (hnew b)⟩
  have g1 := tr2.chg hm
  have hL2 : ∀ y : Bool, (br = true → y = true) → (∀ b, Lv X σ2 (mem ++ m1.map (shB n)) b → Lv (if br = true then fun _ => False else Lv X σ mem) σ1 m1 b) ∨ y = true := by
    intro y hy
    by_cases hbr : br = true
    · exact .inr (hy hbr)
    · refine .inl fun b hb => ?_
      rw [if_neg hbr]
      rcases hb with h | h
      · exact .inl (.inl h)
      · exact (hown b h).elim (fun h => .inl (.inr h)) .inr
  refine ⟨⟨v, _, _, σ2, rfl, hQ, repD_sh (fun id _ => s2 id) (hL2 _ fun h => (hnr h).1) hrep, ⟨fun id cs hid => ?_, fun id id' b N N' cs cs' h1 h2 h3 h4 => ?_, fun b hb => ⟨Nat.lt_of_lt_of_le (hm.far b hb).1 tr.size, fun ho => ?_⟩, fun id hid => ?_⟩, tr2, by simp⟩, fun _ => ⟨tr.size, hkeep⟩⟩
  · rcases get id cs hid with ⟨k1, k2⟩ | ⟨k1, cs0, k2, rfl⟩
    · rw [s1 id k1]
      rcases hm.blk id cs k2 with h | ⟨b, N, q1, c, e, q2, q3, q4, q5⟩
      · exact .inl h
      · exact .inr ⟨b, N, q1, c, e, by rw [hkeep b (own_lt hm ⟨id, cs, N, k2, q1⟩)]; exact q2, q3, q4, fun j x hj => let ⟨u, r1, r2⟩ := q5 j x hj; ⟨u, r1, r2.mono g1⟩⟩
    · have e0 : σ2 id = σ1 (id - n) := if_neg (by omega)
      rw [e0]
      rcases hok.blk (id - n) cs0 k2 with ⟨h1, rfl⟩ | ⟨b, N, q1, c, e, q2, q3, q4, q5⟩
      · exact .inl ⟨h1, rfl⟩
      · refine .inr ⟨b, N, q1, c, e, q2, q3, by simpa using q4, fun j x hj => ?_⟩
        simp only [List.getElem?_map, Option.map_eq_some_iff] at hj
        obtain ⟨y, hy, rfl⟩ := hj
        obtain ⟨u, r1, r2⟩ := q5 j y hy
        refine ⟨u, r1, repC_sh (fun id _ => s2 id) (hL2 _ fun h => ?_) r2⟩
        have := List.all_eq_true.1 (hnr h).2 _ (List.mem_of_getElem? k2)
        exact List.all_eq_true.1 this y (List.mem_of_getElem? hy)
  · rcases get id cs h1 with ⟨k1, k2⟩ | ⟨k1, cs0, k2, _⟩ <;> rcases get id' cs' h2 with ⟨k1', k2'⟩ | ⟨k1', cs0', k2', _⟩
    · rw [s1 id k1] at h3; rw [s1 id' k1'] at h4
      exact hm.inj id id' b N N' _ _ k2 k2' h3 h4
    · rw [s1 id k1] at h3
      have e0 : σ2 id' = σ1 (id' - n) := if_neg (by omega)
      rw [e0] at h4
      have a1 := own_lt hm ⟨id, cs, N, k2, h3⟩
      have a2 := hnew b ⟨id' - n, cs0', N', k2', h4⟩
      omega
    · rw [s1 id' k1'] at h4
      have e0 : σ2 id = σ1 (id - n) := if_neg (by omega)
      rw [e0] at h3
      have a1 := own_lt hm ⟨id', cs', N', k2', h4⟩
      have a2 := hnew b ⟨id - n, cs0, N, k2, h3⟩
      omega
    · have e0 : σ2 id = σ1 (id - n) := if_neg (by omega)
      have e1 : σ2 id' = σ1 (id' - n) := if_neg (by omega)
      rw [e0] at h3; rw [e1] at h4
      have := hok.inj _ _ b N N' _ _ k2 k2' h3 h4
      omega
  · have := hm.far b hb
    rcases hown b ho with h | h
    · exact this.2 h
    · have := hnew b h; omega
  · simp only [List.length_append, List.length_map] at hid
    have e0 : σ2 id = σ1 (id - n) := if_neg (by omega)
    rw [e0]; exact hok.out _ (by omega)

end
end Go.Proofs.YtneiicadhjdbiaaGreat.Ab

namespace Go.Proofs.YtneiicadhjdbiaaGreat.Ab
open Go

/-- What comes next, held back. -/
def Th {α : Type} (K : α → Prop) (x : α) : Prop := K x
def Th2 (K : D → List Blk → Prop) (d : D) (m : List Blk) : Prop := K d m
def optA {α : Type} (o : Option α) (K : α → Prop) : Prop := match o with
  | some x => K x
  | none => False
theorem optA_some {α : Type} (x : α) (K : α → Prop) : optA (some x) K = K x := rfl
theorem exists_optA {α : Type} {o : Option α} {K : α → Prop} : (∃ x, o = some x ∧ K x) = optA o K := by
  cases o <;> simp [optA]

section
variable {P : Program} {n0 : Nat} {Q : Qt} {e : Env} {m : List Blk}

def aIsK (P : Program) (r : List CI) (K : Env → List Blk → Prop) (e : Env) (m : List Blk) : Prop := aIs P r e m K
def putK (e : Env) (dst : Option Nat) (K : Env → List Blk → Prop) (d : D) (m : List Blk) : Prop := K (setE e dst d) m
def atK (K : D → List Blk → Prop) (m : List Blk) (d : D) : Prop := K d m
def opK (P : Program) (o : CO) (dst : Option Nat) (K : Env → List Blk → Prop) (e : Env) (m : List Blk) : Prop := aop P o e m (putK e dst K)
def skipK (dst : Option Nat) (K : Env → List Blk → Prop) (e : Env) (m : List Blk) : Prop := K (setE e dst .und) m
def wkK (n0 : Nat) (Q : Qt) (e : Env) (m : List Blk) : Prop := ∃ e'' m'', Wk n0 e m e'' m'' ∧ Q .normal e'' m''
def awK (P : Program) (n0 : Nat) (c : CC) (Q : Qt) (e : Env) (m : List Blk) : Prop := aw P n0 c Q e m
/-- The head of a round is come to again. -/
def againK (n0 : Nat) (I : Nat → Env → List Blk → Prop) (k : Nat) (e : Env) (m : List Blk) : Prop := ∃ j e'' m'', j < k ∧ Wk n0 e m e'' m'' ∧ I j e'' m''

def condA (d : D) (p q : Env → List Blk → Prop) (e : Env) (m : List Blk) : Prop := match d with
  | .t (.c (.v (.bool b))) => (b = true → p e m) ∧ (b = false → q e m)
  | _ => False
def guardA (d : D) (want : Bool) (p q : Env → List Blk → Prop) (e : Env) (m : List Blk) : Prop := match d with
  | .t (.c (.v (.bool b))) => (b = want → p e m) ∧ (b ≠ want → q e m)
  | .und => q e m
  | _ => False

theorem condA_true (p q : Env → List Blk → Prop) : condA (DV (.bool true)) p q e m = p e m := by simp [condA]
theorem condA_false (p q : Env → List Blk → Prop) : condA (DV (.bool false)) p q e m = q e m := by simp [condA]
theorem condA_of {b : Bool} {p q : Env → List Blk → Prop} (h1 : b = true → p e m) (h2 : b = false → q e m) : condA (DV (.bool b)) p q e m := ⟨h1, h2⟩
theorem guardA_tt (p q : Env → List Blk → Prop) : guardA (DV (.bool true)) true p q e m = p e m := by simp [guardA]
theorem guardA_ff (p q : Env → List Blk → Prop) : guardA (DV (.bool false)) false p q e m = p e m := by simp [guardA]
theorem guardA_tf (p q : Env → List Blk → Prop) : guardA (DV (.bool true)) false p q e m = q e m := by simp [guardA]
theorem guardA_ft (p q : Env → List Blk → Prop) : guardA (DV (.bool false)) true p q e m = q e m := by simp [guardA]
theorem guardA_und (want : Bool) (p q : Env → List Blk → Prop) : guardA .und want p q e m = q e m := rfl
theorem aw_alt (t : CT) : aw P n0 (.alt t) Q e m = aT P t e m (wkK n0 Q) := rfl
theorem aT_done {K : Env → List Blk → Prop} : aT P .done e m K = K e m := rfl
def aTK (P : Program) (t : CT) (K : Env → List Blk → Prop) (e : Env) (m : List Blk) : Prop := aT P t e m K
theorem aTK_eq (t : CT) (K : Env → List Blk → Prop) : aTK P t K e m = aT P t e m K := rfl
theorem aT_op (dst : Option Nat) (o : CO) (t : CT) (K : Env → List Blk → Prop) : aT P (.op ⟨dst, none, o⟩ t) e m K = aop P o e m (putK e dst (aTK P t K)) := rfl
theorem aw_skip : aw P n0 .skip Q e m = Q .normal e m := rfl
theorem aw_ops (l : List CI) : aw P n0 (.ops l) Q e m = aIs P l e m (Q .normal) := rfl
theorem aw_seq (a b : CC) : aw P n0 (.seq a b) Q e m = aw P n0 a (exThen (awK P n0 b Q) Q) e m := rfl
theorem aw_cond (c : Opd) (a b : CC) : aw P n0 (.cond c a b) Q e m = condA (ev e c) (awK P n0 a Q) (awK P n0 b Q) e m := rfl
theorem aw_block (id : Nat) (b : CC) : aw P n0 (.block id b) Q e m = aw P n0 b (exBlock id Q) e m := rfl
theorem aw_exit (id : Nat) : aw P n0 (.exit id) Q e m = Q (.exit id) e m := rfl
theorem aw_ret : aw P n0 .ret Q e m = Q .ret e m := rfl
theorem awK_eq (c : CC) : awK P n0 c Q e m = aw P n0 c Q e m := rfl
theorem exThen_normal (next : Env → List Blk → Prop) : exThen next Q .normal e m = next e m := rfl
theorem exThen_exit (next : Env → List Blk → Prop) (id : Nat) : exThen next Q (.exit id) e m = Q (.exit id) e m := rfl
theorem exThen_ret (next : Env → List Blk → Prop) : exThen next Q .ret e m = Q .ret e m := rfl
theorem exBlock_normal (id : Nat) : exBlock id Q .normal e m = Q .normal e m := rfl
theorem exBlock_same (id : Nat) : exBlock id Q (.exit id) e m = Q .normal e m := if_pos rfl
theorem exBlock_ret (id : Nat) : exBlock id Q .ret e m = Q .ret e m := rfl

variable {K : Env → List Blk → Prop} {K1 : D → Prop} {K2 : D → List Blk → Prop}
theorem aIs_nil : aIs P [] e m K = K e m := rfl
theorem aIs_cons (dst : Option Nat) (o : CO) (r : List CI) : aIs P (⟨dst, none, o⟩ :: r) e m K = aop P o e m (putK e dst (aIsK P r K)) := rfl
theorem aIs_guard (dst : Option Nat) (g : Nat) (want : Bool) (o : CO) (r : List CI) : aIs P (⟨dst, some (g, want), o⟩ :: r) e m K = guardA (get e g) want (opK P o dst (aIsK P r K)) (skipK dst (aIsK P r K)) e m := rfl
theorem aIsK_eq (r : List CI) : aIsK P r K e m = aIs P r e m K := rfl
theorem putK_eq (dst : Option Nat) (d : D) : putK e dst K d m = K (setE e dst d) m := rfl
theorem atK_eq (d : D) : atK K2 m d = K2 d m := rfl
theorem opK_eq (o : CO) (dst : Option Nat) : opK P o dst K e m = aop P o e m (putK e dst K) := rfl
theorem skipK_eq (dst : Option Nat) : skipK dst K e m = K (setE e dst .und) m := rfl
theorem aop_f (o : FOp) : aop P (.f o) e m K2 = fop o e m (atK K2 m) := rfl
theorem aop_e (o : EOp) : aop P (.e o) e m K2 = eop P o e m K2 := rfl
theorem setE_none (d : D) : setE e none d = e := rfl
theorem setE_some (t : Nat) (d : D) : setE e (some t) d = (t, d) :: e := rfl
theorem get_cons (k : Nat) (d : D) (r : Env) (t : Nat) : get ((k, d) :: r) t = if t = k then d else get r t := rfl
theorem ev_t (n : Nat) : ev e (.t n) = get e n := rfl
theorem ev_k (v : V) : ev e (.k v) = DV v := rfl
theorem ev_nil : ev e .nil = DC .nil := rfl
theorem ev_un : ev e .un = .any := rfl
theorem ev_f (g : Nat) : ev e (.f g) = DC (.fn g []) := rfl
/-! ### operations that change no memory -/
def pickA (c a b : D) (K : D → Prop) : Prop := match c with
  | .t (.c (.v (.bool c))) => K (if c = true then a else b)
  | _ => False
def daK (K : D → Prop) (cs : List C) : Prop := K (DA cs)
def dcK (K : D → Prop) (c : C) : Prop := K (DC c)
def dvK (K : D → Prop) (v : V) : Prop := K (DV v)
def rptrK (K : D → Prop) (c : List V) : Prop := K (DC (.rptr c))
def one? : Option (List C) → Option C
  | some [c] => some c
  | _ => none
def ldA (n : Nat) (d : D) (m : List Blk) (K : D → Prop) : Prop := match d with
  | .t (.c (.ptr id off)) => optA (rdm m id off n) (daK K)
  | .t (.c (.rptr vs)) => n ≤ vs.length ∧ Th K (DA ((vs.take n).map .v))
  | _ => False
def ld1A (d : D) (m : List Blk) (K : D → Prop) : Prop := match d with
  | .t (.c (.ptr id off)) => optA (one? (rdm m id off 1)) (dcK K)
  | .t (.c (.rptr vs)) => optA vs[0]? (dvK K)
  | _ => False
def binA (op : BinOp) (x y : D) (K : D → Prop) : Prop := match x, y with
  | .t (.c (.v a)), .t (.c (.v b)) => bin2 op a b (dvK K)
  | _, _ => False
def beqA (neg : Bool) (x y : D) (K : D → Prop) : Prop := match x, y with
  | .t (.c (.v (.bool a))), .t (.c (.v (.bool b))) => K (DV (.bool ((a == b) != neg)))
  | _, _ => False
def notA (x : D) (K : D → Prop) : Prop := match x with
  | .t (.c (.v (.bool b))) => K (DV (.bool !b))
  | _ => False
def faA (off : Nat) (x : D) (K : D → Prop) : Prop := match x with
  | .t (.c (.ptr id o)) => K (DC (.ptr id (o + off)))
  | .t (.c (.rptr vs)) => K (DC (.rptr (vs.drop off)))
  | _ => False
def iaA (sz : Nat) (x i : D) (K : D → Prop) : Prop := match x, i with
  | .t (.c (.sl sz' id off len)), .t (.c (.v (.int _ i))) => sz' = sz ∧ 0 ≤ i ∧ i < len ∧ Th K (DC (.ptr id (off + i.toNat * sz)))
  | .t (.c (.v (.ro sz' es))), .t (.c (.v (.int _ i))) => sz' = sz ∧ 0 ≤ i ∧ optA es[i.toNat]? (rptrK K)
  | _, _ => False
def byteK (K : D → Prop) (b : UInt8) : Prop := K (DV (.int .u8 b.toNat))
def isA (x i : D) (K : D → Prop) : Prop := match x, i with
  | .t (.c (.v (.str s))), .t (.c (.v (.int _ i))) => 0 ≤ i ∧ optA s[i.toNat]? (byteK K)
  | _, _ => False
def tK (K : D → Prop) (t : T) : Prop := K (.t t)
def extA (x : D) (i : Nat) (K : D → Prop) : Prop := match x with
  | .tup xs => optA xs[i]? (tK K)
  | _ => False
def lenA (x : D) (K : D → Prop) : Prop := match x with
  | .t (.c (.sl _ _ _ len)) => K (DV (.int .i64 len))
  | .t (.c (.v (.ro _ es))) => K (DV (.int .i64 es.length))
  | .t (.c .nil) => K (DV (.int .i64 0))
  | _ => False
def lenSA (x : D) (K : D → Prop) : Prop := match x with
  | .t (.c (.v (.str s))) => K (DV (.int .i64 s.length))
  | _ => False
def mxA (isMax : Bool) (x y : D) (K : D → Prop) : Prop := match x, y with
  | .t (.c (.v (.int k a))), .t (.c (.v (.int _ b))) => K (DV (.int k (if isMax then (if b > a then b else a) else (if b < a then b else a))))
  | _, _ => False
def negA (x : D) (K : D → Prop) : Prop := match x with
  | .t (.c (.v (.int k n))) => K (DV (.int k (k.wrap (0 - n))))
  | _ => False
def convA (k : IntKind) (x : D) (K : D → Prop) : Prop := match x with
  | .t (.c (.v (.int _ n))) => K (DV (.int k (k.wrap n)))
  | _ => False
def fnK (f : Nat) (K : D → Prop) (l : List (Nat × Nat)) : Prop := K (DC (.fn f l))

theorem f_mv (x : Opd) : fop (.mv x) e m K1 = K1 (ev e x) := rfl
theorem f_pick (c a b : Opd) : fop (.pick c a b) e m K1 = pickA (ev e c) (ev e a) (ev e b) K1 := rfl
theorem f_ld (n : Nat) (x : Opd) : fop (.ld n x) e m K1 = ldA n (ev e x) m K1 := by
  simp only [fop, ldA]
  generalize ev e x = d
  rcases d with ((z | cs) | xs | _ | _)
  · cases z <;> first | exact exists_optA | rfl
  all_goals first | exact exists_optA | rfl
theorem f_ld1 (x : Opd) : fop (.ld1 x) e m K1 = ld1A (ev e x) m K1 := by
  simp only [fop, ld1A]
  generalize ev e x = d
  rcases d with ((z | cs) | xs | _ | _)
  · cases z with
    | ptr id off =>
      show (∃ c, rdm m id off 1 = some [c] ∧ K1 (DC c)) = optA (one? (rdm m id off 1)) (dcK K1)
      cases h : rdm m id off 1 with
      | none => simp [one?, optA]
      | some cs =>
        cases cs with
        | nil => simp [one?, optA]
        | cons c r => cases r <;> simp [one?, optA, dcK]
    | rptr vs => exact exists_optA
    | _ => rfl
  all_goals rfl
theorem f_bin (op : BinOp) (x y : Opd) : fop (.bin op x y) e m K1 = binA op (ev e x) (ev e y) K1 := rfl
theorem f_beq (neg : Bool) (x y : Opd) : fop (.beq neg x y) e m K1 = beqA neg (ev e x) (ev e y) K1 := rfl
theorem f_not (x : Opd) : fop (.not x) e m K1 = notA (ev e x) K1 := rfl
theorem f_neg (x : Opd) : fop (.neg x) e m K1 = negA (ev e x) K1 := rfl
theorem f_conv (k : IntKind) (x : Opd) : fop (.conv k x) e m K1 = convA k (ev e x) K1 := rfl
theorem f_fa (off : Nat) (x : Opd) : fop (.fa off x) e m K1 = faA off (ev e x) K1 := rfl
theorem f_ia (sz : Nat) (x i : Opd) : fop (.ia sz x i) e m K1 = iaA sz (ev e x) (ev e i) K1 := by
  simp only [fop, iaA]
  simp only [exists_optA]
  rfl
theorem f_is (x i : Opd) : fop (.is x i) e m K1 = isA (ev e x) (ev e i) K1 := by
  simp only [fop, isA]
  simp only [exists_optA]
  rfl
theorem f_ext (x : Opd) (i : Nat) : fop (.ext x i) e m K1 = extA (ev e x) i K1 := by
  simp only [fop, extA]
  generalize ev e x = d
  rcases d with ((z | cs) | xs | _ | _)
  · cases z <;> first | exact exists_optA | rfl
  all_goals first | exact exists_optA | rfl
theorem f_len (x : Opd) : fop (.len x) e m K1 = lenA (ev e x) K1 := rfl
theorem f_lenS (x : Opd) : fop (.lenS x) e m K1 = lenSA (ev e x) K1 := rfl
theorem f_mx (b : Bool) (x y : Opd) : fop (.mx b x y) e m K1 = mxA b (ev e x) (ev e y) K1 := rfl
theorem f_mkfn (f : Nat) (caps : List Opd) : fop (.mkfn f caps) e m K1 = optA (capsOf e caps) (fnK f K1) := by
  simp only [fop, optA]; split <;> rename_i h <;> rw [h] <;> rfl
theorem f_build (zero : List C) (parts : List (Nat × Nat × Opd)) : fop (.build zero parts) e m K1 = optA (buildC e zero parts) (daK K1) := by
  simp only [fop, optA]; split <;> rename_i h <;> rw [h] <;> rfl

theorem pickA_t (a b : D) : pickA (DV (.bool true)) a b K1 = K1 a := rfl
theorem pickA_f (a b : D) : pickA (DV (.bool false)) a b K1 = K1 b := rfl
theorem pickA_b (c a b : Bool) : pickA (DV (.bool c)) (DV (.bool a)) (DV (.bool b)) K1 = K1 (DV (.bool (if c = true then a else b))) := by cases c <;> rfl
theorem ldA_ptr (n id off : Nat) : ldA n (DC (.ptr id off)) m K1 = optA (rdm m id off n) (daK K1) := rfl
theorem ldA_rptr (n : Nat) (vs : List V) : ldA n (DC (.rptr vs)) m K1 = (n ≤ vs.length ∧ Th K1 (DA ((vs.take n).map .v))) := rfl
theorem ld1A_ptr (id off : Nat) : ld1A (DC (.ptr id off)) m K1 = optA (one? (rdm m id off 1)) (dcK K1) := rfl
theorem ld1A_rptr (vs : List V) : ld1A (DC (.rptr vs)) m K1 = optA vs[0]? (dvK K1) := rfl
theorem one?_one (c : C) : one? (some [c]) = some c := rfl
theorem binA_v (op : BinOp) (a b : V) : binA op (DV a) (DV b) K1 = bin2 op a b (dvK K1) := rfl
variable {KV : V → Prop}
theorem bin2_add (k : IntKind) (a b : Int) : bin2 .add (.int k a) (.int k b) KV = KV (.int k (k.wrap (a + b))) := by simp [bin2]
theorem bin2_sub (k : IntKind) (a b : Int) : bin2 .sub (.int k a) (.int k b) KV = KV (.int k (k.wrap (a - b))) := by simp [bin2]
theorem bin2_mul (k : IntKind) (a b : Int) : bin2 .mul (.int k a) (.int k b) KV = KV (.int k (k.wrap (a * b))) := by simp [bin2]
theorem bin2_quo (k : IntKind) (a b : Int) (h : b ≠ 0) : bin2 .quo (.int k a) (.int k b) KV = KV (.int k (k.wrap (a.tdiv b))) := by simp [bin2, h]
theorem bin2_rem (k : IntKind) (a b : Int) (h : b ≠ 0) : bin2 .rem (.int k a) (.int k b) KV = KV (.int k (a.tmod b)) := by simp [bin2, h]
theorem bin2_eql (k : IntKind) (a b : Int) : bin2 .eql (.int k a) (.int k b) KV = KV (.bool (decide (a = b))) := by
  simp only [bin2, true_and]; rw [show (a == b) = decide (a = b) from Bool.eq_iff_iff.2 (by simp)]
theorem bin2_neq (k : IntKind) (a b : Int) : bin2 .neq (.int k a) (.int k b) KV = KV (.bool (decide (a ≠ b))) := by
  simp only [bin2, true_and]; rw [show (a != b) = decide (a ≠ b) from Bool.eq_iff_iff.2 (by simp)]
theorem bin2_lss (k : IntKind) (a b : Int) : bin2 .lss (.int k a) (.int k b) KV = KV (.bool (decide (a < b))) := by simp [bin2]
theorem bin2_leq (k : IntKind) (a b : Int) : bin2 .leq (.int k a) (.int k b) KV = KV (.bool (decide (a ≤ b))) := by simp [bin2]
theorem bin2_gtr (k : IntKind) (a b : Int) : bin2 .gtr (.int k a) (.int k b) KV = KV (.bool (decide (b < a))) := by simp [bin2]
theorem bin2_geq (k : IntKind) (a b : Int) : bin2 .geq (.int k a) (.int k b) KV = KV (.bool (decide (b ≤ a))) := by simp [bin2]
theorem bin2_adds (a b : List UInt8) : bin2 .add (.str a) (.str b) KV = (a.length + b.length ≤ 4611686018427387904 ∧ Th KV (.str (a ++ b))) := rfl
theorem bin2_eqls (a b : List UInt8) : bin2 .eql (.str a) (.str b) KV = KV (.bool (decide (a = b))) := by
  simp only [bin2]; rw [show (a == b) = decide (a = b) from Bool.eq_iff_iff.2 (by simp)]
theorem bin2_neqs (a b : List UInt8) : bin2 .neq (.str a) (.str b) KV = KV (.bool (decide (a ≠ b))) := by
  simp only [bin2]; rw [show (!(a == b)) = decide (a ≠ b) from Bool.eq_iff_iff.2 (by simp)]
theorem beqA_ne (a b : Bool) : beqA true (DV (.bool a)) (DV (.bool b)) K1 = K1 (DV (.bool (a != b))) := by cases a <;> cases b <;> rfl
theorem notA_v (b : Bool) : notA (DV (.bool b)) K1 = K1 (DV (.bool !b)) := rfl
theorem faA_ptr (off id o : Nat) : faA off (DC (.ptr id o)) K1 = K1 (DC (.ptr id (o + off))) := rfl
theorem faA_rptr (off : Nat) (vs : List V) : faA off (DC (.rptr vs)) K1 = K1 (DC (.rptr (vs.drop off))) := rfl
theorem iaA_sl (sz id off len : Nat) (k : IntKind) (i : Int) : iaA sz (DC (.sl sz id off len)) (DV (.int k i)) K1 = (0 ≤ i ∧ i < len ∧ Th K1 (DC (.ptr id (off + i.toNat * sz)))) := by simp [iaA]
theorem iaA_ro (sz : Nat) (es : List (List V)) (k : IntKind) (i : Int) : iaA sz (DV (.ro sz es)) (DV (.int k i)) K1 = (0 ≤ i ∧ optA es[i.toNat]? (rptrK K1)) := by simp [iaA]
theorem isA_v (s : List UInt8) (k : IntKind) (i : Int) : isA (DV (.str s)) (DV (.int k i)) K1 = (0 ≤ i ∧ optA s[i.toNat]? (byteK K1)) := rfl
theorem extA_tup (xs : List T) (i : Nat) : extA (.tup xs) i K1 = optA xs[i]? (tK K1) := rfl
theorem lenA_sl (sz id off len : Nat) : lenA (DC (.sl sz id off len)) K1 = K1 (DV (.int .i64 len)) := rfl
theorem lenA_ro (sz : Nat) (es : List (List V)) : lenA (DV (.ro sz es)) K1 = K1 (DV (.int .i64 es.length)) := rfl
theorem lenSA_v (s : List UInt8) : lenSA (DV (.str s)) K1 = K1 (DV (.int .i64 s.length)) := rfl
theorem mxA_max (k k' : IntKind) (a b : Int) : mxA true (DV (.int k a)) (DV (.int k' b)) K1 = K1 (DV (.int k (if b > a then b else a))) := rfl
theorem negA_v (k : IntKind) (n : Int) : negA (DV (.int k n)) K1 = K1 (DV (.int k (k.wrap (0 - n)))) := rfl
theorem convA_v (k k' : IntKind) (n : Int) : convA k (DV (.int k' n)) K1 = K1 (DV (.int k (k.wrap n))) := rfl
theorem daK_eq (cs : List C) : daK K1 cs = K1 (DA cs) := rfl
theorem dcK_eq (c : C) : dcK K1 c = K1 (DC c) := rfl
theorem dvK_eq (v : V) : dvK K1 v = K1 (DV v) := rfl
theorem rptrK_eq (c : List V) : rptrK K1 c = K1 (DC (.rptr c)) := rfl
theorem byteK_eq (b : UInt8) : byteK K1 b = K1 (DV (.int .u8 b.toNat)) := rfl
theorem tK_eq (t : T) : tK K1 t = K1 (.t t) := rfl
theorem fnK_eq (f : Nat) (l : List (Nat × Nat)) : fnK f K1 l = K1 (DC (.fn f l)) := rfl

end

attribute [go_sem ↓] aw_alt aT_done aTK_eq aT_op aw_skip aw_ops aw_seq aw_cond aw_block aw_exit aw_ret awK_eq exThen_normal exThen_exit exThen_ret exBlock_normal exBlock_same exBlock_ret aIs_nil aIs_cons aIs_guard aIsK_eq putK_eq atK_eq opK_eq skipK_eq aop_f aop_e

attribute [go_sem ↓] f_mv f_pick f_ld f_ld1 f_bin f_beq f_not f_neg f_conv f_fa f_ia f_is f_ext f_len f_lenS f_mx f_mkfn f_build daK_eq dcK_eq dvK_eq rptrK_eq byteK_eq tK_eq fnK_eq

attribute [go_sem] condA_true condA_false guardA_tt guardA_ff guardA_tf guardA_ft guardA_und pickA_t pickA_f pickA_b ldA_ptr ldA_rptr ld1A_ptr ld1A_rptr one?_one binA_v bin2_add bin2_sub bin2_mul bin2_quo bin2_rem bin2_eql bin2_neq bin2_lss bin2_leq bin2_gtr bin2_geq bin2_adds bin2_eqls bin2_neqs beqA_ne notA_v faA_ptr faA_rptr iaA_sl iaA_ro isA_v extA_tup lenA_sl lenA_ro lenSA_v mxA_max negA_v convA_v optA_some

attribute [go_sem] setE_none setE_some get_cons ev_t ev_k ev_nil ev_un ev_f

end Go.Proofs.YtneiicadhjdbiaaGreat.Ab

namespace Go.Proofs.YtneiicadhjdbiaaGreat.Ab
open Go

section
variable {P : Program} {n0 : Nat} {Q : Qt} {e : Env} {m : List Blk} {K : D → List Blk → Prop}

/-! ### memory -/
def sgm (cs : List C) (off n : Nat) : Option (List C) := if off + n ≤ cs.length then some ((cs.drop off).take n) else none
theorem rdm_zero (cs : List C) (r : List Blk) (off n : Nat) : rdm (.cells cs :: r) 0 off n = sgm cs off n := by simp [rdm, sgm]
theorem rdm_succ (b : Blk) (r : List Blk) (i off n : Nat) : rdm (b :: r) (i + 1) off n = rdm r i off n := by simp [rdm]
theorem sgm_eq (cs : List C) (off n : Nat) : sgm cs off n = if off + n ≤ cs.length then some ((cs.drop off).take n) else none := rfl

def wrm : List Blk → Nat → Nat → Nat → List C → Option (List Blk)
  | [], _, _, _, _ => none
  | .cells cs :: r, 0, off, n, xs => if xs.length = n ∧ off + n ≤ cs.length then some (.cells (putCells cs off xs) :: r) else none
  | .hole :: _, 0, _, _, _ => none
  | b :: r, i + 1, off, n, xs => (wrm r i off n xs).map (b :: ·)

theorem wrm_spec : ∀ (m : List Blk) (id off n : Nat) (xs : List C) (m' : List Blk), wrm m id off n xs = some m' → xs.length = n ∧ ∃ cs, m[id]? = some (.cells cs) ∧ off + n ≤ cs.length ∧ m' = m.set id (.cells (putCells cs off xs))
  | [], _, _, _, _, _, h => by simp [wrm] at h
  | .cells cs :: r, 0, off, n, xs, m', h => by
    simp only [wrm] at h
    split at h
    · rename_i hc; cases h; exact ⟨hc.1, cs, rfl, hc.2, rfl⟩
    · cases h
  | .hole :: _, 0, _, _, _, _, h => by simp [wrm] at h
  | b :: r, i + 1, off, n, xs, m', h => by
    simp only [wrm, Option.map_eq_some_iff] at h
    obtain ⟨m1, h1, rfl⟩ := h
    obtain ⟨q1, cs, q2, q3, q4⟩ := wrm_spec r i off n xs m1 h1
    exact ⟨q1, cs, by simpa using q2, q3, by rw [q4]; rfl⟩

theorem wrm_of : ∀ (m : List Blk) (id off n : Nat) (xs cs : List C), m[id]? = some (.cells cs) → xs.length = n → off + n ≤ cs.length → wrm m id off n xs = some (m.set id (.cells (putCells cs off xs)))
  | [], _, _, _, _, _, h, _, _ => by simp at h
  | b :: r, 0, off, n, xs, cs, h, h1, h2 => by
    simp at h; subst h
    simp only [wrm]; rw [if_pos ⟨h1, h2⟩]; rfl
  | b :: r, i + 1, off, n, xs, cs, h, h1, h2 => by
    have := wrm_of r i off n xs cs (by simpa using h) h1 h2
    have e : wrm (b :: r) (i + 1) off n xs = (wrm r i off n xs).map (b :: ·) := by cases b <;> rfl
    rw [e, this]; rfl

theorem wrm_zero (cs : List C) (r : List Blk) (off n : Nat) (xs : List C) : wrm (.cells cs :: r) 0 off n xs = if xs.length = n ∧ off + n ≤ cs.length then some (.cells (putCells cs off xs) :: r) else none := rfl
theorem wrm_succ (b : Blk) (r : List Blk) (i off n : Nat) (xs : List C) : wrm (b :: r) (i + 1) off n xs = (wrm r i off n xs).map (b :: ·) := by cases b <;> rfl
/-- The cells of a block are taken; their name is let go. -/
def popm : List Blk → Nat → Nat → Option (List C × List Blk)
  | [], _, _ => none
  | .cells cs :: r, 0, n => if cs.length = n then some (cs, .hole :: r) else none
  | .hole :: _, 0, _ => none
  | b :: r, i + 1, n => (popm r i n).map fun p => (p.1, b :: p.2)

theorem popm_spec : ∀ (m : List Blk) (id n : Nat) (p : List C × List Blk), popm m id n = some p → m[id]? = some (.cells p.1) ∧ p.1.length = n ∧ p.2 = m.set id .hole
  | [], _, _, _, h => by simp [popm] at h
  | .cells cs :: r, 0, n, p, h => by
    simp only [popm] at h
    split at h
    · rename_i hc; cases h; exact ⟨rfl, hc, rfl⟩
    · cases h
  | .hole :: _, 0, _, _, h => by simp [popm] at h
  | b :: r, i + 1, n, p, h => by
    simp only [popm, Option.map_eq_some_iff] at h
    obtain ⟨q, h1, rfl⟩ := h
    obtain ⟨q1, q2, q3⟩ := popm_spec r i n q h1
    exact ⟨by simpa using q1, q2, by simp [q3]⟩

theorem popm_of : ∀ (m : List Blk) (id n : Nat) (cs : List C), m[id]? = some (.cells cs) → cs.length = n → popm m id n = some (cs, m.set id .hole)
  | [], _, _, _, h, _ => by simp at h
  | b :: r, 0, n, cs, h, h1 => by
    simp at h; subst h
    simp only [popm]; rw [if_pos h1]; rfl
  | b :: r, i + 1, n, cs, h, h1 => by
    have := popm_of r i n cs (by simpa using h) h1
    have e : popm (b :: r) (i + 1) n = (popm r i n).map fun p => (p.1, b :: p.2) := by cases b <;> rfl
    rw [e, this]; rfl

theorem popm_zero (cs : List C) (r : List Blk) (n : Nat) : popm (.cells cs :: r) 0 n = if cs.length = n then some (cs, .hole :: r) else none := rfl
theorem popm_succ (b : Blk) (r : List Blk) (i n : Nat) : popm (b :: r) (i + 1) n = (popm r i n).map fun p => (p.1, b :: p.2) := by cases b <;> rfl
theorem putCells_nil (cs : List C) (o : Nat) : putCells cs o [] = cs := rfl
theorem putCells_cons (cs : List C) (o : Nat) (x : C) (r : List C) : putCells cs o (x :: r) = putCells (cs.set o x) (o + 1) r := rfl
theorem manyC_zero (z : List C) : manyC 0 z = [] := rfl
theorem manyC_succ (n : Nat) (z : List C) : manyC (n + 1) z = z ++ manyC n z := rfl
theorem cellsD_c (x : C) : cellsD (DC x) = some [x] := rfl
theorem cellsD_agg (cs : List C) : cellsD (DA cs) = some cs := rfl

/-! ### operations with effects -/
def boxK (m : List Blk) (K : D → List Blk → Prop) (cs : List C) : Prop := K (DC (.ptr m.length 0)) (m ++ [.cells cs])
def mksK (sz len : Nat) (m : List Blk) (K : D → List Blk → Prop) (cs : List C) : Prop := K (DC (.sl sz m.length 0 len)) (m ++ [.cells cs])
def mkA (sz bytes : Nat) (zero : List C) (l c : D) (m : List Blk) (K : D → List Blk → Prop) : Prop := match l, c with
  | .t (.c (.v (.int .i64 l))), .t (.c (.v (.int .i64 c))) => 0 ≤ l ∧ l ≤ c ∧ c ≤ 4611686018427387904 ∧ bytes * c ≤ 281474976710656 ∧ Th2 K (DC (.sl sz m.length 0 l.toNat)) (m ++ [.cells (manyC l.toNat zero)])
  | _, _ => False
def anyK (K : D → List Blk → Prop) (m : List Blk) : Prop := K .any m
def stA (n : Nat) (x : D) (v : Option (List C)) (m : List Blk) (K : D → List Blk → Prop) : Prop := match x, v with
  | .t (.c (.ptr id off)), some xs => optA (wrm m id off n xs) (anyK K)
  | _, _ => False
def appK (sz len n : Nat) (ys : List C) (K : D → List Blk → Prop) (p : List C × List Blk) : Prop := K (DC (.sl sz p.2.length 0 (len + n))) (p.2 ++ [.cells (p.1 ++ ys)])
def appA (sz bytes : Nat) (x : D) (y : Option (Nat × List C)) (m : List Blk) (K : D → List Blk → Prop) : Prop := match x, y with
  | .t (.c .nil), some (n, ys) => n * bytes ≤ 140737488355328 ∧ Th2 K (DC (.sl sz m.length 0 n)) (m ++ [.cells ys])
  | .t (.c (.sl sz' id 0 len)), some (n, ys) => sz' = sz ∧ (len + n) * bytes ≤ 140737488355328 ∧ optA (popm m id (len * sz)) (appK sz len n ys K)
  | _, _ => False
def callvA (P : Program) (g : Bool) (x : D) (ds : List D) (m : List Blk) (K : D → List Blk → Prop) : Prop := match x with
  | .t (.c (.fn f caps)) => isFn P f = true ∧ AFunG P g f (ds ++ caps.map fun p => DC (.ptr p.1 p.2)) m K
  | _ => False
def clrA (sz : Nat) (zero : List C) (x : D) (m : List Blk) (K : D → List Blk → Prop) : Prop := match x with
  | .t (.c .nil) => K .any m
  | .t (.c (.sl sz' id off len)) => sz' = sz ∧ optA (wrm m id off (len * sz) (manyC len zero)) (anyK K)
  | _ => False

theorem e_new (zero : List C) : eop P (.new zero) e m K = K (DC (.ptr m.length 0)) (m ++ [.cells zero]) := rfl
theorem e_box (x : Opd) : eop P (.box x) e m K = optA (cellsD (ev e x)) (boxK m K) := by
  simp only [eop, optA]; split <;> rename_i h <;> rw [h] <;> rfl
theorem e_mks (sz len : Nat) (zero : List C) (parts : List (Nat × Nat × Opd)) : eop P (.mks sz len zero parts) e m K = optA (buildC e (manyC len zero) parts) (mksK sz len m K) := by
  simp only [eop, optA]; split <;> rename_i h <;> rw [h] <;> rfl
theorem e_mk (sz bytes : Nat) (zero : List C) (l c : Opd) : eop P (.mk sz bytes zero l c) e m K = mkA sz bytes zero (ev e l) (ev e c) m K := rfl
theorem e_st (n : Nat) (x v : Opd) (h : stA n (ev e x) (cellsD (ev e v)) m K) : eop P (.st n x v) e m K := by
  simp only [eop]
  unfold stA at h
  split at h
  · rename_i id off xs h1 h2
    rw [h1, h2]
    cases hw : wrm m id off n xs with
    | none => rw [hw] at h; exact h.elim
    | some m' =>
      rw [hw] at h
      obtain ⟨q1, cs, q2, q3, rfl⟩ := wrm_spec _ _ _ _ _ _ hw
      exact ⟨q1, cs, q2, q3, h⟩
  · exact h.elim
theorem e_stE (n : Nat) (x v : Opd) : eop P (.st n x v) e m K = stA n (ev e x) (cellsD (ev e v)) m K := by
  apply propext
  refine ⟨fun h => ?_, e_st n x v⟩
  simp only [eop] at h
  split at h
  · rename_i id off xs h1 h2
    obtain ⟨q1, cs, q2, q3, q4⟩ := h
    rw [h1, h2]
    show optA (wrm m id off n xs) (anyK K)
    rw [wrm_of m id off n xs cs q2 q1 q3]; exact q4
  · exact h.elim
theorem e_clrE (sz : Nat) (zero : List C) (x : Opd) : eop P (.clr sz zero x) e m K = clrA sz zero (ev e x) m K := by
  apply propext
  simp only [eop]
  constructor
  · intro h
    split at h
    · rename_i he; rw [he]; exact h
    · rename_i sz' id off len he
      rw [he]
      obtain ⟨h1, h2, cs, h3, h4, h5⟩ := h
      refine ⟨h1, ?_⟩
      show optA (wrm m id off (len * sz) (manyC len zero)) (anyK K)
      rw [wrm_of m id off _ _ cs h3 h2 h4]; exact h5
    · exact h.elim
  · intro h
    unfold clrA at h
    split at h
    · rename_i he; rw [he]; exact h
    · rename_i sz' id off len he
      rw [he]
      obtain ⟨h1, h2⟩ := h
      refine ⟨h1, ?_⟩
      cases hw : wrm m id off (len * sz) (manyC len zero) with
      | none => rw [hw] at h2; exact h2.elim
      | some m' =>
        rw [hw] at h2
        obtain ⟨q1, cs, q2, q3, rfl⟩ := wrm_spec _ _ _ _ _ _ hw
        exact ⟨q1, cs, q2, q3, h2⟩
    · exact h.elim
theorem clrA_sl (sz id off len : Nat) (zero : List C) : clrA sz zero (DC (.sl sz id off len)) m K = optA (wrm m id off (len * sz) (manyC len zero)) (anyK K) := by simp [clrA]
theorem e_app (sz bytes : Nat) (x y : Opd) (h : appA sz bytes (ev e x) (elemsOf sz m (ev e y)) m K) : eop P (.app sz bytes x y) e m K := by
  simp only [eop]
  unfold appA at h
  split at h
  · rename_i n ys h1 h2
    rw [h1, h2]; exact h
  · rename_i sz' id len n ys h1 h2
    rw [h1, h2]
    obtain ⟨q1, q2, q3⟩ := h
    refine ⟨q1, q2, ?_⟩
    cases hp : popm m id (len * sz) with
    | none => rw [hp] at q3; exact q3.elim
    | some p =>
      rw [hp] at q3
      obtain ⟨r1, r2, r3⟩ := popm_spec _ _ _ _ hp
      refine ⟨p.1, r1, r2, ?_⟩
      have : K (DC (.sl sz p.2.length 0 (len + n))) (p.2 ++ [.cells (p.1 ++ ys)]) := q3
      rw [r3, List.length_set] at this; exact this
  · exact h.elim
theorem e_appE (sz bytes : Nat) (x y : Opd) : eop P (.app sz bytes x y) e m K = appA sz bytes (ev e x) (elemsOf sz m (ev e y)) m K := by
  apply propext
  refine ⟨fun h => ?_, e_app sz bytes x y⟩
  simp only [eop] at h
  split at h
  · rename_i n ys h1
    rw [h1]
    split at h
    · rename_i h2
      rw [h2]; exact h
    · rename_i sz' id len h2
      rw [h2]
      obtain ⟨q1, q2, cs, q3, q4, q5⟩ := h
      refine ⟨q1, q2, ?_⟩
      rw [popm_of m id (len * sz) cs q3 q4]
      show K (DC (.sl sz (m.set id .hole).length 0 (len + n))) (m.set id .hole ++ [.cells (cs ++ ys)])
      rw [List.length_set]; exact q5
    · exact h.elim
  · exact h.elim
theorem e_call (g : Bool) (f : Nat) (args : List Opd) : eop P (.call g f args) e m K = AFunG P g f (args.map (ev e)) m K := rfl
theorem e_callv (g : Bool) (x : Opd) (args : List Opd) : eop P (.callv g x args) e m K = callvA P g (ev e x) (args.map (ev e)) m K := rfl

theorem boxK_eq (cs : List C) : boxK m K cs = K (DC (.ptr m.length 0)) (m ++ [.cells cs]) := rfl
theorem mksK_eq (sz len : Nat) (cs : List C) : mksK sz len m K cs = K (DC (.sl sz m.length 0 len)) (m ++ [.cells cs]) := rfl
theorem anyK_eq : anyK K m = K .any m := rfl
theorem appK_eq (sz len n : Nat) (ys cs : List C) : appK sz len n ys K (cs, m) = K (DC (.sl sz m.length 0 (len + n))) (m ++ [.cells (cs ++ ys)]) := rfl
theorem mkA_v (sz bytes : Nat) (zero : List C) (l c : Int) : mkA sz bytes zero (DV (.int .i64 l)) (DV (.int .i64 c)) m K = (0 ≤ l ∧ l ≤ c ∧ c ≤ 4611686018427387904 ∧ bytes * c ≤ 281474976710656 ∧ Th2 K (DC (.sl sz m.length 0 l.toNat)) (m ++ [.cells (manyC l.toNat zero)])) := rfl
theorem stA_v (n id off : Nat) (xs : List C) : stA n (DC (.ptr id off)) (some xs) m K = optA (wrm m id off n xs) (anyK K) := rfl
theorem appA_sl (sz bytes id len n : Nat) (ys : List C) : appA sz bytes (DC (.sl sz id 0 len)) (some (n, ys)) m K = ((len + n) * bytes ≤ 140737488355328 ∧ optA (popm m id (len * sz)) (appK sz len n ys K)) := by simp [appA]
theorem callvA_v (g : Bool) (f : Nat) (caps : List (Nat × Nat)) (ds : List D) : callvA P g (DC (.fn f caps)) ds m K = (isFn P f = true ∧ AFunG P g f (ds ++ caps.map fun p => DC (.ptr p.1 p.2)) m K) := rfl
theorem elemsOf_sl (sz id off len : Nat) : elemsOf sz m (DC (.sl sz id off len)) = (rdm m id off (len * sz)).map fun cs => (len, cs) := by simp [elemsOf]
theorem elemsOf_ro (sz : Nat) (es : List (List V)) : elemsOf sz m (DV (.ro sz es)) = some (es.length, es.flatten.map .v) := by simp [elemsOf]
def buildS (o : Option (List C)) (e : Env) (cs : List C) (off n : Nat) (r : List (Nat × Nat × Opd)) : Option (List C) := match o with
  | some xs => if xs.length = n ∧ off + n ≤ cs.length then buildC e (putCells cs off xs) r else none
  | none => none
theorem buildC_nil (cs : List C) : buildC e cs [] = some cs := rfl
theorem buildC_cons (cs : List C) (off n : Nat) (x : Opd) (r : List (Nat × Nat × Opd)) : buildC e cs ((off, n, x) :: r) = buildS (cellsD (ev e x)) e cs off n r := by
  simp only [buildC, buildS]; split <;> rename_i h <;> rw [h]
theorem buildS_some (xs cs : List C) (off n : Nat) (r : List (Nat × Nat × Opd)) : buildS (some xs) e cs off n r = if xs.length = n ∧ off + n ≤ cs.length then buildC e (putCells cs off xs) r else none := rfl
def capsS (d : D) (o : Option (List (Nat × Nat))) : Option (List (Nat × Nat)) := match d, o with
  | .t (.c (.ptr id off)), some l => some ((id, off) :: l)
  | _, _ => none
theorem capsOf_nil : capsOf e [] = some [] := rfl
theorem capsOf_cons (x : Opd) (r : List Opd) : capsOf e (x :: r) = capsS (ev e x) (capsOf e r) := rfl
theorem capsS_ptr (id off : Nat) (l : List (Nat × Nat)) : capsS (DC (.ptr id off)) (some l) = some ((id, off) :: l) := rfl

/-! ### slices of slices, of strings -/
def bndS (d : D) : Option Int := match d with
  | .t (.c (.v (.int _ i))) => some i
  | _ => none
theorem bnd_some (d : Nat) (x : Opd) : bnd e d (some x) = bndS (ev e x) := rfl
def slsA (sz : Nat) (d : D) (e : Env) (lo hi : Option Opd) (K : D → Prop) : Prop := match d with
  | .t (.c (.sl sz' id off len)) => sz' = sz ∧ ∃ l h, bnd e 0 lo = some l ∧ bnd e len hi = some h ∧ 0 ≤ l ∧ l ≤ h ∧ h ≤ len ∧ Th K (DC (.sl sz id (off + l.toNat * sz) (h - l).toNat))
  | .t (.c (.v (.ro sz' es))) => sz' = sz ∧ ∃ l h, bnd e 0 lo = some l ∧ bnd e es.length hi = some h ∧ 0 ≤ l ∧ l ≤ h ∧ h ≤ es.length ∧ Th K (DV (.ro sz ((es.drop l.toNat).take (h - l).toNat)))
  | .t (.c .nil) => ∃ l h, bnd e 0 lo = some l ∧ bnd e 0 hi = some h ∧ l = 0 ∧ h = 0 ∧ Th K (DC .nil)
  | _ => False
theorem f_sls (sz : Nat) (x : Opd) (lo hi : Option Opd) (K : D → Prop) : fop (.sls sz x lo hi) e m K = slsA sz (ev e x) e lo hi K := rfl
theorem slsA_sl (sz id off len : Nat) (lo hi : Option Opd) (K : D → Prop) (l h : Int) (hl : bnd e 0 lo = some l) (hh : bnd e len hi = some h) (h0 : 0 ≤ l) (h1 : l ≤ h) (h2 : h ≤ len) (k : K (DC (.sl sz id (off + l.toNat * sz) (h - l).toNat))) :
    slsA sz (DC (.sl sz id off len)) e lo hi K := ⟨rfl, l, h, hl, hh, h0, h1, h2, k⟩
theorem slsA_ro (sz : Nat) (es : List (List V)) (lo hi : Option Opd) (K : D → Prop) (l h : Int) (hl : bnd e 0 lo = some l) (hh : bnd e es.length hi = some h) (h0 : 0 ≤ l) (h1 : l ≤ h) (h2 : h ≤ es.length) (k : K (DV (.ro sz ((es.drop l.toNat).take (h - l).toNat)))) :
    slsA sz (DV (.ro sz es)) e lo hi K := ⟨rfl, l, h, hl, hh, h0, h1, h2, k⟩
/-! ### the end of a function -/
def finK (n0 : Nat) (m : List Blk) (K : D → List Blk → Prop) (d : D) : Prop := ∃ d' m', WkD n0 d m d' m' ∧ K d' m'
theorem fin_ret (rs : List CR) : fin n0 rs K .ret e m = optA (resD e m rs) (finK n0 m K) := exists_optA
theorem fin_normal (rs : List CR) : fin n0 rs K .normal e m = optA (resD e m rs) (finK n0 m K) := exists_optA
def asT : D → Option T
  | .t x => some x
  | _ => none
def aggT (k : Nat) (d : D) (m : List Blk) : Option T := match d with
  | .t (.c (.ptr id off)) => (rdm m id off k).map .agg
  | _ => none
theorem resT_t (n : Nat) : resT e m (.t n) = asT (get e n) := rfl
theorem resT_cl (k s : Nat) : resT e m (.cl k s) = aggT k (get e s) m := rfl
theorem asT_t (x : T) : asT (.t x) = some x := rfl
theorem aggT_ptr (k id off : Nat) : aggT k (DC (.ptr id off)) m = (rdm m id off k).map .agg := rfl
def consT (a : Option T) (b : Option (List T)) : Option (List T) := match a, b with
  | some x, some xs => some (x :: xs)
  | _, _ => none
theorem resTs_nil : resTs e m [] = some [] := rfl
theorem resTs_cons (r : CR) (l : List CR) : resTs e m (r :: l) = consT (resT e m r) (resTs e m l) := rfl
theorem consT_some (x : T) (xs : List T) : consT (some x) (some xs) = some (x :: xs) := rfl
def tupD (o : Option (List T)) : Option D := match o with
  | some [x] => some (.t x)
  | some xs => some (.tup xs)
  | none => none
theorem resD_eq (rs : List CR) : resD e m rs = tupD (resTs e m rs) := rfl
theorem tupD_one (x : T) : tupD (some [x]) = some (.t x) := rfl
theorem tupD_none : tupD (some []) = some (.tup []) := rfl
theorem tupD_two (x y : T) (r : List T) : tupD (some (x :: y :: r)) = some (.tup (x :: y :: r)) := rfl

theorem WkD.of {d d' : D} {m' : List Blk} (ρ : List Nat) (hinj : ∀ i j, i < m'.length → j < m'.length → ρ.getD i 0 = ρ.getD j 0 → i = j)
    (hb : ∀ id b', m'[id]? = some b' → ∃ b, m[ρ.getD id 0]? = some b ∧ LeB (fun i => ρ.getD i 0) m'.length b' b) (hd : LeD (fun i => ρ.getD i 0) d' d) (hlt : d'.lt m'.length) : WkD 0 d m d' m' :=
  WkD.ren ⟨fun id h => absurd h (Nat.not_lt_zero _), hinj, hb, Nat.zero_le _⟩ hd hlt

/-- A result that is data. -/
theorem WkD.v (x : V) : WkD 0 (DV x) m (DV x) [] :=
  WkD.of [] (fun i j h => absurd h (Nat.not_lt_zero _)) (fun id b' h => by simp at h) (.inr rfl) trivial

theorem finK_v {x : V} (h : K (DV x) []) : finK 0 m K (DV x) := ⟨_, _, WkD.v x, h⟩

/-- Each slot that is still named holds what it held. -/
def subE : Env → Env → Prop
  | [], _ => True
  | (t, d) :: r, e => get e t = d ∧ subE r e
theorem subE_get : ∀ {e' e : Env}, subE e' e → ∀ t, get e' t = get e t ∨ get e' t = .any
  | [], _, _, _ => .inr rfl
  | (t0, d) :: r, e, h, t => by
    simp only [get]
    by_cases ht : t = t0
    · subst ht; rw [if_pos rfl]; exact .inl h.1.symm
    · rw [if_neg ht]; exact subE_get h.2 t
theorem Wk.slots {e' : Env} (h : n0 ≤ m.length) (he : subE e' e) : Wk n0 e m e' m := Wk.sub h (subE_get he)

/-- A round's end. -/
theorem again {I : Nat → Env → List Blk → Prop} {k : Nat} (j : Nat) (e' : Env) (h : n0 ≤ m.length) (he : subE e' e) (hj : j < k) (hI : I j e' m) : againK n0 I k e m := ⟨j, e', m, hj, Wk.slots h he, hI⟩
theorem leCs_vs {ρ : Nat → Nat} : ∀ (ys : List V), LeCs ρ (ys.map .v) (ys.map .v)
  | [] => trivial
  | _ :: r => ⟨.inr rfl, leCs_vs r⟩
theorem ltCs_vs {k : Nat} : ∀ (ys : List V), Cs.lt k (ys.map .v)
  | [] => trivial
  | _ :: r => ⟨trivial, ltCs_vs r⟩

/-- A result among data: over whatever memory was there. -/
theorem WkD.drop {mem ex : List Blk} {d : D} (hw : WfM mem) (hd : LeD id d d) (hlt : d.lt mem.length) : WkD mem.length d (mem ++ ex) d mem :=
  WkD.ren (ρ := id) ⟨fun _ _ => rfl, fun _ _ _ _ h => h, fun i b' hb => ⟨b', by rw [id, List.getElem?_append_left (List.getElem?_eq_some_iff.1 hb).1]; exact hb, by
    cases b' with
    | hole => trivial
    | cells cs =>
      refine ⟨hw i cs hb, ?_⟩
      have : ∀ l : List C, LeCs id l l := fun l => by
        induction l with
        | nil => trivial
        | cons x r ih => exact ⟨.inr (by cases x <;> simp [renC]), ih⟩
      exact this cs⟩, Nat.le_refl _⟩ hd hlt

/-! ### calls -/
end

attribute [go_sem ↓] e_stE e_clrE e_appE e_new e_box e_mks e_mk e_call e_callv boxK_eq mksK_eq anyK_eq appK_eq fin_ret fin_normal f_sls

attribute [go_sem] rdm_zero rdm_succ sgm_eq wrm_zero wrm_succ popm_zero popm_succ putCells_nil putCells_cons manyC_zero manyC_succ cellsD_c cellsD_agg mkA_v stA_v clrA_sl appA_sl callvA_v elemsOf_sl elemsOf_ro buildC_nil buildC_cons buildS_some capsOf_nil capsOf_cons capsS_ptr bnd_some resT_t resT_cl asT_t aggT_ptr resTs_nil resTs_cons consT_some resD_eq tupD_one tupD_none tupD_two

end Go.Proofs.YtneiicadhjdbiaaGreat.Ab

namespace Go.Proofs.YtneiicadhjdbiaaGreat.Ab
open Go

/-- What a cell reads as when nobody writes this memory any more. -/
inductive Fz (m : List Blk) : C → V → Prop
  | v (y : V) : Fz m (.v y) y
  | nil (sz : Nat) : Fz m .nil (.ro sz [])
  | sl (sz id off len : Nat) (cs : List C) (es : List (List V)) (hcs : rdm m id off (len * sz) = some cs) (hlen : es.length = len) (hsz : ∀ c ∈ es, c.length = sz) (hpos : 0 < sz) (hl : cs.length = es.flatten.length)
      (hx : ∀ (j : Nat) (x : C) (y : V), cs[j]? = some x → es.flatten[j]? = some y → Fz m x y) : Fz m (.sl sz id off len) (.ro sz es)

def FzCs (m : List Blk) : List C → List V → Prop
  | [], [] => True
  | x :: r, y :: s => Fz m x y ∧ FzCs m r s
  | _, _ => False

def FzT (m : List Blk) : T → T → Prop
  | .c x, t => ∃ y, Fz m x y ∧ t = .c (.v y)
  | .agg cs, t => ∃ ys, FzCs m cs ys ∧ t = .agg (ys.map .v)

def FzTs (m : List Blk) : List T → List T → Prop
  | [], [] => True
  | x :: r, y :: s => FzT m x y ∧ FzTs m r s
  | _, _ => False

def FzD (m : List Blk) : D → D → Prop
  | .t x, .t y => FzT m x y
  | .tup a, .tup b => FzTs m a b
  | _, _ => False

section
variable {P : Program} {X : Nat → Prop} {σ : Sg} {m : List Blk} {w : World}

theorem fz_rep (hm : MemOk X σ m w) {x : C} {y : V} (h : Fz m x y) : ∀ v, RepC σ (Lv X σ m) w v x → RepV X w v y := by
  induction h with
  | v y => exact fun v h => RepV.mono (Nat.le_refl _) (fun b _ hb => ⟨fun h => hb (.inl h), rfl⟩) h
  | nil sz => exact fun v h => by obtain ⟨A, rfl⟩ := h; exact .roE _ _ _
  | sl sz id off len cs es hcs hlen hsz hpos hl hx ih =>
    intro v hr
    rcases hr with ⟨_, rfl, A, rfl⟩ | ⟨b, N, cap, h1, rfl, h2, h3⟩
    · have : es = [] := List.eq_nil_of_length_eq_zero hlen
      subst this
      exact .roE _ _ _
    · obtain ⟨vs, q1, q2, q3⟩ := own_cells hm h1 hcs
      have hsz' : ∀ (i : Nat) (c : List V), es[i]? = some c → c.length = sz := fun i c hi => hsz c (List.mem_of_getElem? hi)
      have key : ∀ (i : Nat) (c : List V), es[i]? = some c → ∀ (j : Nat) (x : V), c[j]? = some x → ∃ u, vs[i * sz + j]? = some u ∧ RepV X w u x := fun i c hi j x hj => by
        have hjs : j < sz := by rw [← hsz' i c hi]; exact (List.getElem?_eq_some_iff.1 hj).1
        have hfl : es.flatten[i * sz + j]? = some x := by
          rw [flatten_get hpos es _ hsz']
          have e1 : (i * sz + j) / sz = i := by rw [Nat.mul_comm, Nat.mul_add_div hpos, Nat.div_eq_of_lt hjs, Nat.add_zero]
          have e2 : (i * sz + j) % sz = j := by rw [Nat.mul_comm, Nat.mul_add_mod, Nat.mod_eq_of_lt hjs]
          rw [e1, e2, hi]; exact hj
        have hlt : i * sz + j < cs.length := by rw [hl]; exact (List.getElem?_eq_some_iff.1 hfl).1
        obtain ⟨u, s1, s2⟩ := q2.2 _ _ (List.getElem?_eq_getElem hlt)
        exact ⟨u, s1, ih _ _ _ (List.getElem?_eq_getElem hlt) hfl u s2⟩
      have hown : len ≠ 0 → Own σ m b := fun h0 => by
        unfold rdm at hcs
        split at hcs
        · rename_i all hall
          exact ⟨id, all, N, hall, h1⟩
        · cases hcs
      by_cases h0 : len = 0
      · have : es = [] := List.eq_nil_of_length_eq_zero (hlen.trans h0)
        subst this; subst h0
        exact .roE _ _ _
      · have ho := hown h0
        refine .ro b off len cap sz es (fun i j => vs.getD (i * sz + j) undef) hlen h2 (own_lt hm ho) (fun h => (hm.far b h).2 ho) hsz' (fun i c hi j x hj => ?_) (fun i c hi j x hj => ?_)
        · obtain ⟨u, s1, _⟩ := key i c hi j x hj
          have e : vs.getD (i * sz + j) undef = u := by simp [s1]
          rw [e, Nat.add_assoc]
          exact q3 _ u s1
        · obtain ⟨u, s1, s2⟩ := key i c hi j x hj
          have e : vs.getD (i * sz + j) undef = u := by simp [s1]
          rw [e]; exact s2

theorem fzCs_get : ∀ {a : List C} {b : List V}, FzCs m a b → a.length = b.length ∧ ∀ {j : Nat} {y : V}, b[j]? = some y → ∃ x, a[j]? = some x ∧ Fz m x y
  | [], [], _ => ⟨rfl, fun hj => by simp at hj⟩
  | x :: r, y :: s, h => ⟨by simp [(fzCs_get h.2).1], fun {j z} hj => by
      cases j with
      | zero => simp at hj; subst hj; exact ⟨x, rfl, h.1⟩
      | succ j => simp at hj; obtain ⟨u, h1, h2⟩ := (fzCs_get h.2).2 hj; exact ⟨u, by simpa using h1, h2⟩⟩
  | [], _ :: _, h => h.elim
  | _ :: _, [], h => h.elim

theorem fzTs_get : ∀ {a b : List T}, FzTs m a b → a.length = b.length ∧ ∀ {j : Nat} {y : T}, b[j]? = some y → ∃ x, a[j]? = some x ∧ FzT m x y
  | [], [], _ => ⟨rfl, fun hj => by simp at hj⟩
  | x :: r, y :: s, h => ⟨by simp [(fzTs_get h.2).1], fun {j z} hj => by
      cases j with
      | zero => simp at hj; subst hj; exact ⟨x, rfl, h.1⟩
      | succ j => simp at hj; obtain ⟨u, h1, h2⟩ := (fzTs_get h.2).2 hj; exact ⟨u, by simpa using h1, h2⟩⟩
  | [], _ :: _, h => h.elim
  | _ :: _, [], h => h.elim

theorem fzT_rep (hm : MemOk X σ m w) {x y : T} (h : FzT m x y) {v : Value} (hv : RepT σ (Lv X σ m) w v x) {σ' : Sg} : RepT σ' X w v y := by
  cases x with
  | c x => obtain ⟨z, h1, rfl⟩ := h; exact fz_rep hm h1 v hv
  | agg cs =>
    obtain ⟨ys, h1, rfl⟩ := h
    obtain ⟨vs, q1, q2, q3⟩ := hv
    obtain ⟨r1, r2⟩ := fzCs_get h1
    refine ⟨vs, q1, by simp [q2, r1], fun i z hz => ?_⟩
    simp only [List.getElem?_map, Option.map_eq_some_iff] at hz
    obtain ⟨y, hy, rfl⟩ := hz
    obtain ⟨x, p1, p2⟩ := r2 hy
    obtain ⟨u, s1, s2⟩ := q3 i x p1
    exact ⟨u, s1, fz_rep hm p2 u s2⟩

theorem fzD_rep (hm : MemOk X σ m w) {x y : D} (h : FzD m x y) {v : Value} (hv : RepD σ (Lv X σ m) w v x) {σ' : Sg} : RepD σ' X w v y := by
  cases x with
  | t x => cases y with
    | t y => exact fzT_rep hm h hv
    | _ => exact h.elim
  | tup a => cases y with
    | tup b =>
      obtain ⟨vs, q1, q2, q3⟩ := hv
      obtain ⟨r1, r2⟩ := fzTs_get h
      refine ⟨vs, q1, by rw [q2, r1], fun i z hz => ?_⟩
      obtain ⟨x, p1, p2⟩ := r2 hz
      obtain ⟨u, s1, s2⟩ := q3 i x p1
      exact ⟨u, s1, fzT_rep hm p2 s2⟩
    | _ => exact h.elim
  | und => exact h.elim
  | any => exact h.elim

/-- A result that nobody writes any more is data. -/
theorem WkD.fz {d d' : D} (h : FzD m d d') : WkD 0 d m d' [] := fun X σ w v hm hv => by
  have hno : ∀ b, ¬ Own (fun _ => none) [] b := fun b ⟨id, cs, N, h1, _⟩ => by simp at h1
  have hLv0 : Lv X (fun _ => none) [] = X := by
    funext b; apply propext; exact ⟨fun h => h.elim (fun h => h) fun h => (hno b h).elim, .inl⟩
  refine ⟨fun _ => none, by rw [hLv0]; exact fzD_rep hm h hv, ⟨fun id cs hid => by simp at hid, fun id id' b N N' cs cs' h1 => by simp at h1, fun b hb => ⟨(hm.far b hb).1, hno b⟩, fun _ _ => rfl⟩,
    ⟨fun id hid => absurd hid (Nat.not_lt_zero _), rfl, rfl, rfl, Nat.le_refl _, fun _ _ _ => rfl, fun b hb => (hno b hb).elim⟩, Nat.zero_le _⟩

theorem finK_fz {K : D → List Blk → Prop} {d d' : D} (h : FzD m d d') (k : K d' []) : finK 0 m K d := ⟨_, _, WkD.fz h, k⟩

theorem Fz.flat {sz id off len : Nat} {es : List (List V)} (hcs : rdm m id off (len * sz) = some (es.flatten.map .v)) (hlen : es.length = len) (hsz : ∀ c ∈ es, c.length = sz) (hpos : 0 < sz) : Fz m (.sl sz id off len) (.ro sz es) :=
  .sl sz id off len _ es hcs hlen hsz hpos (List.length_map ..) fun j x y hx hy => by
    simp only [List.getElem?_map, hy, Option.map_some, Option.some.injEq] at hx
    subst hx; exact .v y

theorem FzD.c {x : C} {y : V} (h : Fz m x y) : FzD m (DC x) (DV y) := ⟨y, h, rfl⟩
theorem FzD.v (y : V) : FzD m (DV y) (DV y) := ⟨y, .v y, rfl⟩
theorem FzD.agg {cs : List C} {ys : List V} (h : FzCs m cs ys) : FzD m (DA cs) (DA (ys.map .v)) := ⟨ys, h, rfl⟩
theorem FzCs.vs : ∀ (ys : List V), FzCs m (ys.map .v) ys
  | [] => trivial
  | y :: r => ⟨.v y, FzCs.vs r⟩
/-! ### functions of data -/
/-- A result that is data. -/
def T.pure : T → Prop
  | .c x => ∃ y, x = .v y
  | .agg cs => ∃ ys : List V, cs = ys.map .v
def D.pure : D → Prop
  | .t x => x.pure
  | .tup xs => ∀ x ∈ xs, x.pure
  | _ => False

theorem T.pure_sh {n : Nat} {t : T} (h : t.pure) : shT n t = t := by
  cases t with
  | c x => obtain ⟨y, rfl⟩ := h; rfl
  | agg cs => obtain ⟨ys, rfl⟩ := h; simp [shT, shC, renC]
theorem D.pure_sh {n : Nat} {d : D} (h : d.pure) : shD n d = d := by
  cases d with
  | t x => simp only [shD]; rw [T.pure_sh h]
  | tup xs =>
    simp only [shD]
    congr 1
    conv => rhs; rw [← List.map_id xs]
    exact List.map_congr_left fun x hx => T.pure_sh (h x hx)
  | und => rfl
  | any => rfl

/-- A function of data returns data and leaves all memory alone. -/
def AFunD (P : Program) (f : Nat) (ds : List D) (d : D) : Prop := d.pure ∧ AFun P f ds [] fun d' m => d' = d ∧ m = []

theorem AFunD.call {K : D → List Blk → Prop} {f : Nat} {ds ds0 : List D} {d : D} {g br : Bool} (h : AFunD P f ds0 d) (hv : Vws m br ds ds0) (hn : br = true → noRoD d = true) (k : K d m) : AFunG P g f ds m K :=
  AFunG.frame h.2 hv fun d' m1 ⟨h1, h2⟩ => by
    subst h1; subst h2
    exact ⟨fun hb => ⟨hn hb, rfl⟩, by rw [D.pure_sh h.1]; simpa using k⟩

theorem AFunD.intro {h : Hints} {f : Nat} {cc : CC} {rs : List CR} {n : Nat} (hf : compFn P h f = some (cc, rs, n)) {ds : List D} {d : D} (hn : ds.length ≤ n) (hp : d.pure)
    (hk : aw P 0 cc (fin 0 rs fun d' m => d' = d ∧ m = []) (argE ds 0) []) : AFunD P f ds d := ⟨hp, AFun.intro hf hn hk⟩

theorem D.pure_v (y : V) : (DV y).pure := ⟨y, rfl⟩
theorem D.pure_vs (ys : List V) : (DA (ys.map .v)).pure := ⟨ys, rfl⟩

/-- The arguments are data. -/
def Pures : List D → Prop
  | [] => True
  | d :: r => (∃ x, d = .t x ∧ x.pure) ∧ Pures r

theorem Pures.vws {br : Bool} : ∀ {ds : List D}, Pures ds → Vws m br ds ds
  | [], _ => trivial
  | d :: r, ⟨⟨x, h1, h2⟩, h3⟩ => by
    refine ⟨?_, Pures.vws h3⟩
    subst h1
    cases x with
    | c x => obtain ⟨y, rfl⟩ := h2; exact Vw.v y
    | agg cs => obtain ⟨ys, rfl⟩ := h2; exact Vw.agg (VwCs.vs ys)

theorem Pures.nil : Pures [] := trivial
theorem Pures.v (y : V) {r : List D} (h : Pures r) : Pures (DV y :: r) := ⟨⟨_, rfl, y, rfl⟩, h⟩
theorem Pures.vs (ys : List V) {r : List D} (h : Pures r) : Pures (DA (ys.map .v) :: r) := ⟨⟨_, rfl, ys, rfl⟩, h⟩

theorem AFunD.callp {K : D → List Blk → Prop} {f : Nat} {ds : List D} {d : D} {g : Bool} (h : AFunD P f ds d) (hv : Pures ds) (k : K d m) : AFunG P g f ds m K :=
  h.call (br := false) hv.vws (fun h => by cases h) k

end
end Go.Proofs.YtneiicadhjdbiaaGreat.Ab

namespace Go.Proofs.YtneiicadhjdbiaaGreat.Ab
open Go

/-- The callee's names in the caller's. -/
def rnm (ρ : List Nat) (n : Nat) (i : Nat) : Nat := if i < ρ.length then ρ.getD i 0 else i - ρ.length + n
def renB (f : Nat → Nat) : Blk → Blk
  | .cells cs => .cells (cs.map (renC f))
  | .hole => .hole
def renT (f : Nat → Nat) : T → T
  | .c x => .c (renC f x)
  | .agg cs => .agg (cs.map (renC f))
def renD (f : Nat → Nat) : D → D
  | .t x => .t (renT f x)
  | .tup xs => .tup (xs.map (renT f))
  | x => x
/-- Blocks put in the places ρ. -/
def setB : List Blk → List Nat → List Blk → List Blk
  | m, i :: r, b :: s => setB (m.set i b) r s
  | m, _, _ => m

theorem setB_length : ∀ (m : List Blk) (ρ : List Nat) (bs : List Blk), (setB m ρ bs).length = m.length
  | m, i :: r, b :: s => by rw [setB, setB_length]; simp
  | _, [], _ => by simp [setB]
  | _, _ :: _, [] => by simp [setB]

theorem setB_other : ∀ (m : List Blk) (ρ : List Nat) (bs : List Blk) (id : Nat), id ∉ ρ → (setB m ρ bs)[id]? = m[id]?
  | m, i :: r, b :: s, id, h => by
    rw [setB, setB_other _ _ _ _ (fun h' => h (List.mem_cons_of_mem _ h')), List.getElem?_set_ne]
    rintro rfl; exact h (List.mem_cons_self ..)
  | _, [], _, _, _ => by simp [setB]
  | _, _ :: _, [], _, _ => by simp [setB]

theorem setB_at : ∀ (m : List Blk) (ρ : List Nat) (bs : List Blk), ρ.Nodup → (∀ i ∈ ρ, i < m.length) → ρ.length ≤ bs.length → ∀ (i : Nat) (id : Nat), ρ[i]? = some id → (setB m ρ bs)[id]? = bs[i]?
  | m, j :: r, b :: s, hn, hlt, hl, i, id, hi => by
    rw [setB]
    rw [List.nodup_cons] at hn
    cases i with
    | zero =>
      simp at hi; subst hi
      rw [setB_other _ _ _ _ hn.1, List.getElem?_set_self (hlt _ (List.mem_cons_self ..))]; rfl
    | succ i =>
      simp at hi
      rw [setB_at _ r s hn.2 (fun k hk => by rw [List.length_set]; exact hlt k (List.mem_cons_of_mem _ hk)) (by simpa using hl) i id hi]; rfl
  | _, [], _, _, _, _, i, _, hi => by simp at hi
  | _, _ :: _, [], _, _, hl, _, _, _ => by simp at hl

theorem nodup_inj : ∀ {l : List Nat}, l.Nodup → ∀ {i j : Nat} (hi : i < l.length) (hj : j < l.length), l[i] = l[j] → i = j
  | a :: r, hn, i, j, hi, hj, h => by
    rw [List.nodup_cons] at hn
    cases i with
    | zero => cases j with
      | zero => rfl
      | succ j =>
        simp at h
        exact (hn.1 (by rw [h]; exact List.getElem_mem _)).elim
    | succ i => cases j with
      | zero =>
        simp at h
        exact (hn.1 (by rw [← h]; exact List.getElem_mem _)).elim
      | succ j =>
        simp at h
        rw [nodup_inj hn.2 (by simpa using hi) (by simpa using hj) h]

/-- Who may not be written meanwhile, seen by the callee. -/
def Xof (X : Nat → Prop) (σ : Sg) (mem : List Blk) (ρ : List Nat) (br : Bool) (b : Nat) : Prop := br = false ∧ (X b ∨ ∃ id cs N, id ∉ ρ ∧ mem[id]? = some (.cells cs) ∧ σ id = some (some (b, N)))

/-- How d reads as d0 for a callee that holds the blocks ρ. -/
def VwM (mem : List Blk) (ρ : List Nat) (br : Bool) (d d0 : D) : Prop :=
  ∀ (X : Nat → Prop) (σ : Sg) (w : World) (v : Value), MemOk X σ mem w → RepD σ (Lv X σ mem) w v d → RepD (cutS σ (fun i => ρ.getD i 0) ρ.length) (fun b => Xof X σ mem ρ br b ∨ ∃ id cs N, id ∈ ρ ∧ mem[id]? = some (.cells cs) ∧ σ id = some (some (b, N))) w v d0
def VwMs (mem : List Blk) (ρ : List Nat) (br : Bool) : List D → List D → Prop
  | [], [] => True
  | x :: r, y :: s => VwM mem ρ br x y ∧ VwMs mem ρ br r s
  | _, _ => False

section
variable {P : Program} {X : Nat → Prop} {σ : Sg} {mem : List Blk} {w : World} {br : Bool} {ρ : List Nat}

theorem vwM_sub : ∀ b, (Xof X σ mem ρ br b ∨ ∃ id cs N, id ∈ ρ ∧ mem[id]? = some (.cells cs) ∧ σ id = some (some (b, N))) → Lv X σ mem b := by
  rintro b (⟨_, h | ⟨id, cs, N, _, h1, h2⟩⟩ | ⟨id, cs, N, _, h1, h2⟩)
  · exact .inl h
  · exact .inr ⟨id, cs, N, h1, h2⟩
  · exact .inr ⟨id, cs, N, h1, h2⟩

/-- Own data handed over under the callee's names; data that is read-only stays so. -/
theorem VwM.ren {d d0 : D} (h : LeD (fun i => ρ.getD i 0) d0 d) (hlt : d0.lt ρ.length) : VwM mem ρ br d d0 := fun _ _ _ _ _ hr => repD_le vwM_sub hr h hlt

theorem vwMs_rep (hm : MemOk X σ mem w) : ∀ {ds ds0 : List D} {vs : List Value}, VwMs mem ρ br ds ds0 → RepDs σ (Lv X σ mem) w vs ds →
    RepDs (cutS σ (fun i => ρ.getD i 0) ρ.length) (fun b => Xof X σ mem ρ br b ∨ ∃ id cs N, id ∈ ρ ∧ mem[id]? = some (.cells cs) ∧ σ id = some (some (b, N))) w vs ds0
  | [], [], vs, _, h => ⟨h.1, fun i d hd => by simp at hd⟩
  | x :: r, y :: s, vs, hv, h => by
    obtain ⟨h1, h2⟩ := h
    cases vs with
    | nil => simp at h1
    | cons u us =>
      have := vwMs_rep hm (vs := us) hv.2 ⟨by simpa using h1, fun i d hd => by simpa using h2 (i + 1) d (by simpa using hd)⟩
      refine ⟨by simp [this.1], fun i d hd => ?_⟩
      cases i with
      | zero =>
        simp at hd; subst hd
        obtain ⟨u', q1, q2⟩ := h2 0 x rfl
        simp at q1; subst q1
        exact ⟨u, rfl, hv.1 X σ w u hm q2⟩
      | succ i => simp at hd; simpa using this.2 i d hd
  | [], _ :: _, _, hv, _ => hv.elim
  | _ :: _, [], _, hv, _ => hv.elim

theorem repC_ren {f : Nat → Nat} {σ1 σ2 : Sg} {L1 L2 : Nat → Prop} (hσ : ∀ id, σ1 id ≠ none → σ2 (f id) = σ1 id) {v : Value} {x : C} (hL : (∀ b, L2 b → L1 b) ∨ noRoC x = true) (h : RepC σ1 L1 w v x) : RepC σ2 L2 w v (renC f x) := by
  cases x with
  | v y =>
    rcases hL with hL | hL
    · exact RepV.mono (Nat.le_refl _) (fun b _ hb => ⟨fun h => hb (hL b h), rfl⟩) h
    · cases y with
      | int k i => cases h; exact .int _ _
      | bool b => cases h; exact .bool _
      | str s => cases h; exact .str _
      | ro sz es =>
        have : es = [] := List.isEmpty_iff.1 hL
        subst this
        obtain ⟨A, cap, rfl, _⟩ := repV_ro h
        exact .roE _ _ _
  | nil => exact h
  | sl sz id off len =>
    rcases h with ⟨h0, h⟩ | ⟨b, N, cap, h1, h2⟩
    · exact .inl ⟨by rw [hσ id h0]; exact h0, h⟩
    · exact .inr ⟨b, N, cap, by rw [hσ id (by rw [h1]; simp)]; exact h1, h2⟩
  | ptr id off => obtain ⟨b, N, h1, h2⟩ := h; exact ⟨b, N, by rw [hσ id (by rw [h1]; simp)]; exact h1, h2⟩
  | rptr cs =>
    rcases hL with hL | hL
    · obtain ⟨b, off, val, h1, h2, h3, h4⟩ := h
      exact ⟨b, off, val, h1, h2, fun h => h3 (hL b h), fun j x hj => ⟨(h4 j x hj).1, RepV.mono (Nat.le_refl _) (fun b _ hb => ⟨fun h => hb (hL b h), rfl⟩) (h4 j x hj).2⟩⟩
    · cases hL
  | nptr => exact h
  | fn g caps =>
    obtain ⟨vs, h1, h2, h3⟩ := h
    refine ⟨vs, h1, by simpa using h2, fun i p hp => ?_⟩
    simp only [List.getElem?_map, Option.map_eq_some_iff] at hp
    obtain ⟨q, hq, rfl⟩ := hp
    obtain ⟨b, N, k1, k2⟩ := h3 i q hq
    exact ⟨b, N, by show σ2 (f q.1) = _; rw [hσ q.1 (by rw [k1]; simp)]; exact k1, k2⟩
  | any => exact h

theorem repT_ren {f : Nat → Nat} {σ1 σ2 : Sg} {L1 L2 : Nat → Prop} (hσ : ∀ id, σ1 id ≠ none → σ2 (f id) = σ1 id) {v : Value} {x : T} (hL : (∀ b, L2 b → L1 b) ∨ noRoT x = true) (h : RepT σ1 L1 w v x) : RepT σ2 L2 w v (renT f x) := by
  cases x with
  | c x => exact repC_ren hσ hL h
  | agg cs =>
    obtain ⟨vs, h1, h2, h3⟩ := h
    refine ⟨vs, h1, by simpa using h2, fun i y hy => ?_⟩
    simp only [List.getElem?_map, Option.map_eq_some_iff] at hy
    obtain ⟨z, hz, rfl⟩ := hy
    obtain ⟨u, q1, q2⟩ := h3 i z hz
    exact ⟨u, q1, repC_ren hσ (hL.imp id fun h => List.all_eq_true.1 h z (List.mem_of_getElem? hz)) q2⟩

theorem repD_ren {f : Nat → Nat} {σ1 σ2 : Sg} {L1 L2 : Nat → Prop} (hσ : ∀ id, σ1 id ≠ none → σ2 (f id) = σ1 id) {v : Value} {x : D} (hL : (∀ b, L2 b → L1 b) ∨ noRoD x = true) (h : RepD σ1 L1 w v x) : RepD σ2 L2 w v (renD f x) := by
  cases x with
  | t x => exact repT_ren hσ hL h
  | tup xs =>
    obtain ⟨vs, h1, h2, h3⟩ := h
    refine ⟨vs, h1, by simpa using h2, fun i y hy => ?_⟩
    simp only [List.getElem?_map, Option.map_eq_some_iff] at hy
    obtain ⟨z, hz, rfl⟩ := hy
    obtain ⟨u, q1, q2⟩ := h3 i z hz
    exact ⟨u, q1, repT_ren hσ (hL.imp id fun h => List.all_eq_true.1 h z (List.mem_of_getElem? hz)) q2⟩
  | und => exact h
  | any => trivial

/-- A call that hands the blocks ρ over. -/
theorem AFunG.hand {f : Nat} {ds ds0 : List D} {mem0 : List Blk} {Q0 Q : D → List Blk → Prop} (ρ : List Nat) (h : AFun P f ds0 mem0 Q0) (hn : ρ.Nodup) (hlen : mem0.length = ρ.length)
    (hb : ∀ i b', mem0[i]? = some b' → ∃ b, mem[ρ.getD i 0]? = some b ∧ LeB (fun i => ρ.getD i 0) mem0.length b' b) (hv : VwMs mem ρ br ds ds0)
    (hq : ∀ d m, Q0 d m → ρ.length ≤ m.length → (br = true → noRoD d = true ∧ m.all noRoB = true) ∧ Q (renD (rnm ρ mem.length) d) (setB mem ρ (m.map (renB (rnm ρ mem.length))) ++ (m.drop ρ.length).map (renB (rnm ρ mem.length)))) : AFunG P false f ds mem Q := by
  intro X σ w vs hm hr
  have hinj : ∀ i j, i < mem0.length → j < mem0.length → ρ.getD i 0 = ρ.getD j 0 → i = j := fun i j hi hj he => by
    rw [hlen] at hi hj
    simp only [List.getD_eq_getElem?_getD, List.getElem?_eq_getElem hi, List.getElem?_eq_getElem hj, Option.getD_some] at he
    exact nodup_inj hn hi hj he
  obtain ⟨m1, _, _⟩ := leM_ok (n0 := 0) (m' := mem0) (ρ := fun i => ρ.getD i 0) ⟨fun id h => absurd h (Nat.not_lt_zero _), hinj, hb, Nat.zero_le _⟩ hm
  let n := mem.length
  let k := ρ.length
  let σ0 : Sg := cutS σ (fun i => ρ.getD i 0) k
  have hσ0 : cutS σ (fun i => ρ.getD i 0) mem0.length = σ0 := by rw [hlen]
  rw [hσ0] at m1
  have mem_at : ∀ i, i < k → ρ.getD i 0 ∈ ρ := fun i hi => by
    rw [List.getD_eq_getElem?_getD, List.getElem?_eq_getElem hi]; exact List.getElem_mem hi
  have hρlt : ∀ id ∈ ρ, id < n := fun id hid => by
    obtain ⟨i, hi, rfl⟩ := List.getElem_of_mem hid
    have hi0 : i < mem0.length := by rw [hlen]; exact hi
    obtain ⟨b, q1, _⟩ := hb i mem0[i] (List.getElem?_eq_getElem hi0)
    rw [List.getD_eq_getElem?_getD, List.getElem?_eq_getElem hi] at q1
    exact (List.getElem?_eq_some_iff.1 q1).1
  have own0 : ∀ b, Own σ0 mem0 b → ∃ id cs N, id ∈ ρ ∧ mem[id]? = some (.cells cs) ∧ σ id = some (some (b, N)) := fun b ⟨i, cs', N, h1, h2⟩ => by
    have hi : i < k := by have := (List.getElem?_eq_some_iff.1 h1).1; omega
    obtain ⟨b0, q1, q2⟩ := hb i _ h1
    cases b0 with
    | hole => exact q2.elim
    | cells cs =>
      have e : σ0 i = σ (ρ.getD i 0) := if_pos hi
      exact ⟨_, cs, N, mem_at i hi, q1, by rw [← e]; exact h2⟩
  let X0 : Nat → Prop := Xof X σ mem ρ br
  have hX0 : ∀ b, X0 b → b < w.heap.size ∧ ¬ Own σ0 mem0 b := by
    rintro b ⟨_, h | ⟨id, cs, N, h0, h1, h2⟩⟩
    · exact ⟨(hm.far b h).1, fun ho => by obtain ⟨id, cs, N, _, q1, q2⟩ := own0 b ho; exact (hm.far b h).2 ⟨id, cs, N, q1, q2⟩⟩
    · refine ⟨own_lt hm ⟨id, cs, N, h1, h2⟩, fun ho => ?_⟩
      obtain ⟨id', cs', N', p0, p1, p2⟩ := own0 b ho
      have := hm.inj id id' b N N' _ _ h1 p1 h2 p2
      subst this; exact h0 p0
  have hL0 : ∀ b, Lv X0 σ0 mem0 b → Lv X σ mem b := fun b hb => by
    rcases hb with ⟨_, h | ⟨id, cs, N, _, h1, h2⟩⟩ | ho
    · exact .inl h
    · exact .inr ⟨id, cs, N, h1, h2⟩
    · obtain ⟨id, cs, N, _, q1, q2⟩ := own0 b ho; exact .inr ⟨id, cs, N, q1, q2⟩
  have hm0 : MemOk X0 σ0 mem0 w := by
    refine ⟨fun i cs' hid => ?_, m1.inj, hX0, m1.out⟩
    have hi : i < k := by have := (List.getElem?_eq_some_iff.1 hid).1; omega
    have e : σ0 i = σ (ρ.getD i 0) := if_pos hi
    obtain ⟨b0, q1, q2⟩ := hb i _ hid
    cases b0 with
    | hole => exact q2.elim
    | cells cs =>
      obtain ⟨q2, q3⟩ := q2
      rw [hlen] at q2
      rw [e]
      rcases hm.blk _ cs q1 with ⟨r1, rfl⟩ | ⟨b, N, r1, c, e', r2, r3, r4, r5⟩
      · refine .inl ⟨r1, ?_⟩
        have := leCs_len q3
        exact List.eq_nil_of_length_eq_zero (by simp at this; simp [this])
      · refine .inr ⟨b, N, r1, c, e', r2, r3, Nat.le_trans (leCs_len q3) r4, fun j x' hj => ?_⟩
        obtain ⟨x, p1, p2⟩ := leCs_get q3 hj
        obtain ⟨v, s1, s2⟩ := r5 j x p1
        exact ⟨v, s1, rep_le hL0 s2 p2 (Cs.lt_iff.1 q2 x' (List.mem_of_getElem? hj))⟩
  have hLsub : ∀ b, Lv X0 σ0 mem0 b → (Xof X σ mem ρ br b ∨ ∃ id cs N, id ∈ ρ ∧ mem[id]? = some (.cells cs) ∧ σ id = some (some (b, N))) := fun b hb => hb.imp (fun h => h) (own0 b)
  have hr0 : RepDs σ0 (Lv X0 σ0 mem0) w vs ds0 := by
    obtain ⟨p1, p2⟩ := vwMs_rep hm hv hr
    refine ⟨p1, fun i d hd => ?_⟩
    obtain ⟨u, q1, q2⟩ := p2 i d hd
    refine ⟨u, q1, q2.mono ⟨fun _ _ h => h, Nat.le_refl _, fun b _ hb => ⟨fun h => hb (hLsub b h), rfl⟩⟩⟩
  refine (h X0 σ0 w vs hm0 hr0).mono ?_
  rintro e w' ⟨v, d, m1', σ1, rfl, hQ, hrep, hok, tr, hlen1⟩
  rw [hlen] at hlen1
  have hext : ∀ i, i < k → σ1 i = σ (ρ.getD i 0) := fun i hi => by rw [tr.ext i (by rw [hlen]; exact hi)]; exact if_pos hi
  obtain ⟨hnr, hQ⟩ := hq d m1' hQ hlen1
  let f := rnm ρ n
  let mem2 := setB mem ρ (m1'.map (renB f)) ++ (m1'.drop k).map (renB f)
  let σ2 : Sg := fun id => if id < n then σ id else σ1 (id - n + k)
  have s1 : ∀ id, id < n → σ2 id = σ id := fun id h => if_pos h
  have f1 : ∀ i, i < k → f i = ρ.getD i 0 := fun i hi => if_pos hi
  have f2 : ∀ i, k ≤ i → f i = i - k + n := fun i hi => if_neg (by show ¬ i < k; omega)
  have s2 : ∀ i, σ2 (f i) = σ1 i := fun i => by
    by_cases hi : i < k
    · rw [f1 i hi, s1 _ (hρlt _ (mem_at i hi)), hext i hi]
    · rw [f2 i (by omega)]
      show (if i - k + n < n then _ else _) = _
      rw [if_neg (by omega)]
      congr 1; omega
  have hlen2 : (setB mem ρ (m1'.map (renB f))).length = n := setB_length _ _ _
  have get : ∀ (id : Nat) (cs : List C), mem2[id]? = some (.cells cs) → (id < n ∧ id ∉ ρ ∧ mem[id]? = some (.cells cs)) ∨ (∃ i cs0, id = f i ∧ m1'[i]? = some (.cells cs0) ∧ cs = cs0.map (renC f)) := fun id cs h => by
    have h : (setB mem ρ (m1'.map (renB f)) ++ (m1'.drop k).map (renB f))[id]? = some (.cells cs) := h
    have fin : ∀ i : Nat, (m1'.map (renB f))[i]? = some (.cells cs) → ∃ cs0, m1'[i]? = some (.cells cs0) ∧ cs = cs0.map (renC f) := fun i hi => by
      simp only [List.getElem?_map, Option.map_eq_some_iff] at hi
      obtain ⟨b, hb, hc⟩ := hi
      cases b with
      | cells cs0 => cases hc; exact ⟨cs0, hb, rfl⟩
      | hole => cases hc
    rw [List.getElem?_append, hlen2] at h
    split at h
    · rename_i hlt
      by_cases hin : id ∈ ρ
      · obtain ⟨i, hi, rfl⟩ := List.getElem_of_mem hin
        rw [setB_at mem ρ _ hn hρlt (by simpa using hlen1) i _ (List.getElem?_eq_getElem hi)] at h
        obtain ⟨cs0, q1, q2⟩ := fin i h
        refine .inr ⟨i, cs0, ?_, q1, q2⟩
        rw [f1 i hi, List.getD_eq_getElem?_getD, List.getElem?_eq_getElem hi]; rfl
      · rw [setB_other _ _ _ _ hin] at h
        exact .inl ⟨hlt, hin, h⟩
    · rename_i hge
      have h' : (m1'.map (renB f))[k + (id - n)]? = some (.cells cs) := by rw [List.map_drop, List.getElem?_drop] at h; exact h
      obtain ⟨cs0, q1, q2⟩ := fin _ h'
      refine .inr ⟨_, cs0, ?_, q1, q2⟩
      rw [f2 _ (by omega)]; omega
  have hnew : ∀ b, Own σ1 m1' b → (∃ id cs N, id ∈ ρ ∧ mem[id]? = some (.cells cs) ∧ σ id = some (some (b, N))) ∨ w.heap.size ≤ b := fun b hb => (tr.own b hb).imp (own0 b) id
  have hown : ∀ b, Own σ2 mem2 b → Own σ mem b ∨ Own σ1 m1' b := fun b ⟨id, cs, N, h1, h2⟩ => by
    rcases get id cs h1 with ⟨k1, _, k2⟩ | ⟨i, cs0, rfl, k2, _⟩
    · rw [s1 id k1] at h2; exact .inl ⟨id, cs, N, k2, h2⟩
    · rw [s2 i] at h2; exact .inr ⟨i, cs0, N, k2, h2⟩
  have hown' : ∀ b, Own σ1 m1' b → Own σ mem b ∨ w.heap.size ≤ b := fun b hb => (hnew b hb).imp (fun ⟨id, cs, N, _, q1, q2⟩ => ⟨id, cs, N, q1, q2⟩) id
  have hkeep : ∀ b, b < w.heap.size → ¬ Own σ0 mem0 b → w'.heap[b]? = w.heap[b]? := tr.keep
  have own0' : ∀ b, Own σ0 mem0 b → Own σ mem b := fun b hb => by obtain ⟨id, cs, N, _, q1, q2⟩ := own0 b hb; exact ⟨id, cs, N, q1, q2⟩
  have tr2 : Tr n σ mem w σ2 mem2 w' := ⟨fun id hid => s1 id hid, tr.os, tr.tape, tr.output, tr.size, fun b hb ho => hkeep b hb fun h => ho (own0' b h), fun b hb => (hown b hb).elim .inl (hown' b)⟩
  have g1 := tr2.chg hm
  have lvs : br = false → ∀ b, Lv X σ2 mem2 b → Lv X0 σ1 m1' b := fun hbr b hb => by
    rcases hb with h | ⟨id, cs, N, h1, h2⟩
    · exact .inl ⟨hbr, .inl h⟩
    · rcases get id cs h1 with ⟨k1, k0, k2⟩ | ⟨i, cs0, rfl, k2, _⟩
      · rw [s1 id k1] at h2; exact .inl ⟨hbr, .inr ⟨id, cs, N, k0, k2, h2⟩⟩
      · rw [s2 i] at h2; exact .inr ⟨i, cs0, N, k2, h2⟩
  have hL2 : ∀ y : Bool, (br = true → y = true) → (∀ b, Lv X σ2 mem2 b → Lv X0 σ1 m1' b) ∨ y = true := by
    intro y hy
    by_cases hbr : br = true
    · exact .inr (hy hbr)
    · exact .inl (lvs (by simpa using hbr))
  refine ⟨⟨v, _, _, σ2, rfl, hQ, repD_ren (fun id _ => s2 id) (hL2 _ fun h => (hnr h).1) hrep, ⟨fun id cs hid => ?_, fun id id' b N N' cs cs' h1 h2 h3 h4 => ?_, fun b hb => ⟨Nat.lt_of_lt_of_le (hm.far b hb).1 tr.size, fun ho => ?_⟩, fun id hid => ?_⟩, tr2, ?_⟩, fun h => by cases h⟩
  · rcases get id cs hid with ⟨k1, k0, k2⟩ | ⟨i, cs0, rfl, k2, rfl⟩
    · rw [s1 id k1]
      rcases hm.blk id cs k2 with h | ⟨b, N, q1, c, e, q2, q3, q4, q5⟩
      · exact .inl h
      · refine .inr ⟨b, N, q1, c, e, ?_, q3, q4, fun j x hj => let ⟨u, r1, r2⟩ := q5 j x hj; ⟨u, r1, r2.mono g1⟩⟩
        rw [hkeep b (own_lt hm ⟨id, cs, N, k2, q1⟩) fun ho => ?_]
        · exact q2
        · obtain ⟨id', cs', N', p0, p1, p2⟩ := own0 b ho
          have := hm.inj id id' b N N' _ _ k2 p1 q1 p2
          subst this; exact k0 p0
    · rw [s2 i]
      rcases hok.blk i cs0 k2 with ⟨h1, rfl⟩ | ⟨b, N, q1, c, e, q2, q3, q4, q5⟩
      · exact .inl ⟨h1, rfl⟩
      · refine .inr ⟨b, N, q1, c, e, q2, q3, by simpa using q4, fun j x hj => ?_⟩
        simp only [List.getElem?_map, Option.map_eq_some_iff] at hj
        obtain ⟨y, hy, rfl⟩ := hj
        obtain ⟨u, r1, r2⟩ := q5 j y hy
        refine ⟨u, r1, repC_ren (fun id _ => s2 id) (hL2 _ fun h => ?_) r2⟩
        have := List.all_eq_true.1 (hnr h).2 _ (List.mem_of_getElem? k2)
        exact List.all_eq_true.1 this y (List.mem_of_getElem? hy)
  · have mix : ∀ (id : Nat) (cs : List C) (i : Nat) (cs0 : List C) (N N' : Nat), id ∉ ρ → mem[id]? = some (.cells cs) → m1'[i]? = some (.cells cs0) → σ id = some (some (b, N)) → σ1 i = some (some (b, N')) → False := fun id cs i cs0 N N' k0 k2 k2' h3 h4 => by
      rcases hnew b ⟨i, cs0, N', k2', h4⟩ with ⟨id', cs', N'', p0, p1, p2⟩ | p
      · have := hm.inj id id' b N N'' _ _ k2 p1 h3 p2
        subst this; exact k0 p0
      · have := own_lt hm ⟨id, cs, N, k2, h3⟩; omega
    rcases get id cs h1 with ⟨k1, k0, k2⟩ | ⟨i, cs0, rfl, k2, _⟩ <;> rcases get id' cs' h2 with ⟨k1', k0', k2'⟩ | ⟨i', cs0', rfl, k2', _⟩
    · rw [s1 id k1] at h3; rw [s1 id' k1'] at h4
      exact hm.inj id id' b N N' _ _ k2 k2' h3 h4
    · rw [s1 id k1] at h3; rw [s2 i'] at h4
      exact (mix _ _ _ _ _ _ k0 k2 k2' h3 h4).elim
    · rw [s1 id' k1'] at h4; rw [s2 i] at h3
      exact (mix _ _ _ _ _ _ k0' k2' k2 h4 h3).elim
    · rw [s2 i] at h3; rw [s2 i'] at h4
      rw [hok.inj _ _ b N N' _ _ k2 k2' h3 h4]
  · rcases hown b ho with h | h
    · exact (hm.far b hb).2 h
    · rcases hown' b h with h | h
      · exact (hm.far b hb).2 h
      · have := (hm.far b hb).1; omega
  · have hl : mem2.length = n + (m1'.length - k) := by
      show (setB mem ρ (m1'.map (renB f)) ++ (m1'.drop k).map (renB f)).length = _
      simp [hlen2]
    rw [hl] at hid
    show (if id < n then _ else _) = _
    rw [if_neg (by omega)]
    exact hok.out _ (by omega)
  · show mem.length ≤ (setB mem ρ (m1'.map (renB f)) ++ (m1'.drop k).map (renB f)).length
    simp only [List.length_append, hlen2]; exact Nat.le_add_right _ _

end
end Go.Proofs.YtneiicadhjdbiaaGreat.Ab

namespace Go.Proofs.YtneiicadhjdbiaaGreat.Ab
open Go

section
variable {P : Program} {n0 : Nat} {Q : Qt} {e : Env} {m : List Blk}

theorem condA_dec {p : Prop} [Decidable p] {a b : Env → List Blk → Prop} (h1 : p → a e m) (h2 : ¬ p → b e m) : condA (DV (.bool (decide p))) a b e m := ⟨fun h => h1 (of_decide_eq_true h), fun h => h2 (of_decide_eq_false h)⟩
/-- The end of a round: the next state stands. -/
def nextK {S : Type} (n0 : Nat) (E : S → Env) (M : S → List Blk) (ms : S → Nat) (inv : S → Prop) (s : S) (e : Env) (m : List Blk) : Prop := ∃ s', ms s' < ms s ∧ inv s' ∧ Wk n0 e m (E s') (M s')

theorem loop_st {S : Type} {b : CC} (E : S → Env) (M : S → List Blk) (ms : S → Nat) (inv : S → Prop) (s0 : S) (hn : n0 ≤ m.length) (he : subE (E s0) e) (hm : M s0 = m) (h0 : inv s0)
    (round : ∀ s, inv s → aw P n0 b (exThen (nextK n0 E M ms inv s) Q) (E s) (M s)) : aw P n0 (.loop b) Q e m := by
  subst hm
  refine ⟨fun k e m => ∃ s, ms s = k ∧ inv s ∧ e = E s ∧ m = M s, ⟨ms s0, E s0, M s0, Wk.slots hn he, s0, rfl, h0, rfl, rfl⟩, ?_⟩
  rintro k e m ⟨s, rfl, hs, rfl, rfl⟩
  have h := round s hs
  have : (fun e' m' => ∃ j e'' m'', j < ms s ∧ Wk n0 e' m' e'' m'' ∧ ∃ s', ms s' = j ∧ inv s' ∧ e'' = E s' ∧ m'' = M s') = nextK n0 E M ms inv s := by
    funext e' m'
    apply propext
    constructor
    · rintro ⟨j, e'', m'', hj, hw, s', rfl, hs', rfl, rfl⟩; exact ⟨s', hj, hs', hw⟩
    · rintro ⟨s', hj, hs', hw⟩; exact ⟨_, _, _, hj, hw, s', rfl, hs', rfl, rfl⟩
  rw [this]; exact h

theorem next_of {S : Type} {E : S → Env} {M : S → List Blk} {ms : S → Nat} {inv : S → Prop} {s : S} (s' : S) (hms : ms s' < ms s) (hinv : inv s') (hn : n0 ≤ m.length) (he : subE (E s') e) (hm : M s' = m) : nextK n0 E M ms inv s e m := by
  subst hm; exact ⟨s', hms, hinv, Wk.slots hn he⟩

/-- The next state, with blocks under other names. -/
theorem next_ren {S : Type} {E : S → Env} {M : S → List Blk} {ms : S → Nat} {inv : S → Prop} {s : S} (s' : S) (ρ : Nat → Nat) (hms : ms s' < ms s) (hinv : inv s') (h : LeM n0 ρ m (M s')) (he : LeE ρ (M s').length (E s') e) : nextK n0 E M ms inv s e m :=
  ⟨s', hms, hinv, Wk.ren h he⟩

end

/-! ### whole numbers -/
theorem w64 {x : Int} (h : -9223372036854775808 ≤ x) (h' : x < 9223372036854775808) : IntKind.i64.wrap x = x := by
  simp only [IntKind.wrap, IntKind.bits, IntKind.signed]; simp; omega
theorem w64s {i : Nat} (h : i < 4611686018427387904) : IntKind.i64.wrap ((i : Int) + 1) = ((i + 1 : Nat) : Int) := by
  rw [w64 (by omega) (by omega)]; omega

/-! ### data -/
abbrev vInt (i : Int) : V := .int .i64 i
def vInts (l : List Int) : V := .ro 1 (l.map fun x => [.int .i64 x])
structure Team where
  name : List UInt8
  club : Int
  seed : Int
structure Rules where
  win : Int
  draw : Int
  loss : Int
  ladder : List Int
  again : Bool
structure Game where
  home : Int
  away : Int
  hg : Int
  ag : Int
  state : Int
structure Book where
  field : List Team
  rules : Rules
  games : List Game
  fair : List Int
  taken : List Int
structure Row where
  played : Int
  wins : Int
  draws : Int
  losses : Int
  scored : Int
  against : Int
  points : Int

def eTeam (t : Team) : List V := [.str t.name, .int .i64 t.club, .int .i64 t.seed]
def eRules (u : Rules) : List V := [.int .i64 u.win, .int .i64 u.draw, .int .i64 u.loss, vInts u.ladder, .bool u.again]
def eGame (g : Game) : List V := [.int .i64 g.home, .int .i64 g.away, .int .i64 g.hg, .int .i64 g.ag, .int .i64 g.state]
def eRow (r : Row) : List V := [.int .i64 r.played, .int .i64 r.wins, .int .i64 r.draws, .int .i64 r.losses, .int .i64 r.scored, .int .i64 r.against, .int .i64 r.points]
def vTeams (l : List Team) : V := .ro 3 (l.map eTeam)
def vGames (l : List Game) : V := .ro 5 (l.map eGame)
def vRows (l : List Row) : V := .ro 7 (l.map eRow)
def eBook (b : Book) : List V := vTeams b.field :: (eRules b.rules ++ [vGames b.games, vInts b.fair, vInts b.taken])
def dTeam (t : Team) : D := DA ((eTeam t).map .v)
def dRules (u : Rules) : D := DA ((eRules u).map .v)
def dGame (g : Game) : D := DA ((eGame g).map .v)
def dRow (r : Row) : D := DA ((eRow r).map .v)
def dBook (b : Book) : D := DA ((eBook b).map .v)
/-- The own cells of a slice with these elements. -/
def cOf {α : Type} (f : α → List V) (l : List α) : List C := (l.map f).flatten.map .v

attribute [go_sem] Int.natCast_nonneg true_and and_true List.getElem?_cons_zero List.getElem?_cons_succ List.getElem?_map Option.map_some List.length_map List.length_cons List.length_nil ne_eq not_false_eq_true not_true_eq_false decide_true decide_false Bool.not_true Bool.not_false Bool.false_eq_true

attribute [go_sem] List.map_cons List.map_nil List.nil_append List.cons_append List.drop_succ_cons List.drop_zero List.take_succ_cons List.take_zero List.set_cons_zero List.set_cons_succ and_self

def strK (K : D → Prop) (s : List UInt8) : Prop := K (DV (.str s))
def bstrK (K : D → Prop) (cs : List C) : Prop := optA (strOf cs) (strK K)
def bstrA (d : D) (m : List Blk) (K : D → Prop) : Prop := match d with
  | .t (.c (.sl sz id off len)) => sz = 1 ∧ optA (rdm m id off len) (bstrK K)
  | _ => False
theorem f_bstr {e : Env} {m : List Blk} {K : D → Prop} (x : Opd) : fop (.bstr x) e m K = bstrA (ev e x) m K := by
  simp only [fop, bstrA, exists_optA]
  rfl
theorem bstrA_sl {m : List Blk} {K : D → Prop} (id off len : Nat) : bstrA (DC (.sl 1 id off len)) m K = optA (rdm m id off len) (bstrK K) := by simp [bstrA]
theorem bstrK_eq {K : D → Prop} (cs : List C) : bstrK K cs = optA (strOf cs) (strK K) := rfl
theorem strK_eq {K : D → Prop} (s : List UInt8) : strK K s = K (DV (.str s)) := rfl
theorem strOf_nil : strOf [] = some [] := rfl
theorem strOf_cons (n : Int) (r : List C) : strOf (.v (.int .u8 n) :: r) = (strOf r).map (UInt8.ofNat n.toNat :: ·) := rfl
attribute [go_sem ↓] f_bstr bstrK_eq strK_eq

attribute [go_sem] bstrA_sl strOf_nil strOf_cons

theorem Th_eq {α : Type} (K : α → Prop) (x : α) : Th K x = K x := rfl
theorem Th2_eq (K : D → List Blk → Prop) (d : D) (m : List Blk) : Th2 K d m = K d m := rfl
theorem eTeam_len (t : Team) : (eTeam t).length = 3 := rfl
theorem eGame_len (t : Game) : (eGame t).length = 5 := rfl
theorem eRow_len (t : Row) : (eRow t).length = 7 := rfl
theorem eTeam_take (t : Team) : (eTeam t).take 3 = eTeam t := rfl
theorem eGame_take (t : Game) : (eGame t).take 5 = eGame t := rfl
theorem eRow_take (t : Row) : (eRow t).take 7 = eRow t := rfl
attribute [go_sem ↓] Th_eq Th2_eq

attribute [go_sem] eTeam_len eGame_len eRow_len eTeam_take eGame_take eRow_take Nat.le_refl

theorem toNat_cast (i : Nat) : ((i : Int)).toNat = i := by simp
attribute [go_sem] toNat_cast

end Go.Proofs.YtneiicadhjdbiaaGreat.Ab

namespace Go.Proofs.YtneiicadhjdbiaaGreat.Ab
open Go

abbrev F.laws_FnExactRanksOf : Nat := 6
abbrev F.laws_szBook : Nat := 8
abbrev F.laws_toBook : Nat := 12
abbrev F.laws_eqBook : Nat := 16
abbrev F.laws_markBook : Nat := 21
abbrev F.spec_RanksOf : Nat := 32
abbrev F.impl_RanksOf : Nat := 33
abbrev F.laws_eqIntS : Nat := 34
abbrev F.laws_markIntS : Nat := 35
abbrev F.laws_heldIntS : Nat := 36
abbrev F.laws_szTeamS : Nat := 39
abbrev F.laws_szRules : Nat := 40
abbrev F.laws_szGameS : Nat := 41
abbrev F.laws_szIntS : Nat := 42
abbrev F.laws_toTeamS : Nat := 44
abbrev F.laws_toRules : Nat := 45
abbrev F.laws_toGameS : Nat := 46
abbrev F.laws_toIntS : Nat := 47
abbrev F.laws_eqTeamS : Nat := 50
abbrev F.laws_eqRules : Nat := 51
abbrev F.laws_eqGameS : Nat := 52
abbrev F.spec_l01In : Nat := 56
abbrev F.impl_within : Nat := 60
abbrev F.laws_markTeamS : Nat := 62
abbrev F.laws_markRules : Nat := 63
abbrev F.laws_markGameS : Nat := 64
abbrev F.spec_l16Ranks : Nat := 65
abbrev F.spec_l02Has : Nat := 66
abbrev F.impl_endings : Nat := 67
abbrev F.slices_Sort_int : Nat := 68
abbrev F.slices_Compact_int : Nat := 69
abbrev F.impl_upTo : Nat := 71
abbrev F.laws_szTeam : Nat := 73
abbrev F.laws_toTeam : Nat := 75
abbrev F.laws_toGame : Nat := 76
abbrev F.laws_eqTeam : Nat := 78
abbrev F.laws_eqGame : Nat := 79
abbrev F.spec_BookOk : Nat := 80
abbrev F.spec_l16Copy : Nat := 82
abbrev F.spec_RulesOk : Nat := 85
abbrev F.spec_RankGroups : Nat := 86
abbrev F.impl_BookOk : Nat := 87
abbrev F.impl_Book_copied : Nat := 89
abbrev F.impl_RulesOk : Nat := 92
abbrev F.slices_Contains_int : Nat := 93
abbrev F.laws_markText : Nat := 95
abbrev F.spec_l16Open : Nat := 96
abbrev F.spec_CountOutcomes : Nat := 97
abbrev F.spec_RankOf : Nat := 98
abbrev F.spec_l16With : Nat := 99
abbrev F.spec_l16At : Nat := 100
abbrev F.impl_isShort : Nat := 101
abbrev F.impl_isTeam : Nat := 102
abbrev F.impl_CountOutcomes : Nat := 103
abbrev F.impl_outcomeAt : Nat := 104
abbrev F.impl_OpenGames : Nat := 105
abbrev F.impl_ranks : Nat := 106
abbrev F.impl_played : Nat := 107
abbrev F.slices_IndexFunc_int : Nat := 110
abbrev F.spec_FieldOk : Nat := 111
abbrev F.spec_SeasonOk : Nat := 112
abbrev F.spec_RankFrom : Nat := 115
abbrev F.spec_l07All : Nat := 116
abbrev F.impl_FieldOk : Nat := 117
abbrev F.impl_SeasonOk : Nat := 118
abbrev F.impl_arePenalties : Nat := 119
abbrev F.slices_Clone_Team : Nat := 121
abbrev F.slices_Clone_Game : Nat := 122
abbrev F.slices_Clone_int : Nat := 123
abbrev F.impl_isKey : Nat := 128
abbrev F.slices_Index_int : Nat := 129
abbrev F.spec_OpenGames : Nat := 131
abbrev F.spec_PlayGame : Nat := 132
abbrev F.impl_gamesWhere : Nat := 133
abbrev F.impl_IsOpen : Nat := 134
abbrev F.impl_rankerOf : Nat := 135
abbrev F.impl_ranker_rank : Nat := 136
abbrev F.impl_PlayGame : Nat := 137
abbrev F.spec_TeamOk : Nat := 149
abbrev F.spec_GameOk : Nat := 150
abbrev F.spec_GameOf : Nat := 151
abbrev F.spec_IsOpen : Nat := 152
abbrev F.spec_l07Teams : Nat := 153
abbrev F.spec_l07Rank : Nat := 154
abbrev F.impl_TeamOk : Nat := 155
abbrev F.slices_ContainsFunc_Team : Nat := 156
abbrev F.impl_FieldOk_c1 : Nat := 157
abbrev F.impl_GameOk : Nat := 158
abbrev F.impl_GameOf : Nat := 159
abbrev F.slices_ContainsFunc_int : Nat := 160
abbrev F.impl_arePenalties_c1 : Nat := 161
abbrev F.impl_tableOf : Nat := 168
abbrev F.impl_rankerOf_c1 : Nat := 169
abbrev F.impl_ranker_split : Nat := 170
abbrev F.impl_ranker_next : Nat := 171
abbrev F.spec_IsName : Nat := 178
abbrev F.spec_l07Split : Nat := 179
abbrev F.spec_IsMutual : Nat := 180
abbrev F.impl_IsName : Nat := 181
abbrev F.slices_IndexFunc_Team : Nat := 182
abbrev F.slices_IndexFunc_Game : Nat := 183
abbrev F.impl_GameOf_c1 : Nat := 184
abbrev F.impl_GoalsOf : Nat := 187
abbrev F.impl_ranker_values : Nat := 188
abbrev F.slices_Insert_int : Nat := 189
abbrev F.impl_IsMutual : Nat := 190
abbrev F.spec_l07Values : Nat := 192
abbrev F.impl_among : Nat := 195
abbrev F.impl_DifferenceOf : Nat := 196
abbrev F.slices_rotateRight_int : Nat := 198
abbrev F.spec_l06Among : Nat := 199
abbrev F.spec_DifferenceOf : Nat := 200
abbrev F.impl_among_c1 : Nat := 202
abbrev F.spec_l06Add : Nat := 204
abbrev F.spec_GoalsOf : Nat := 207
abbrev F.spec_OutcomeOf : Nat := 208
abbrev F.spec_AddRows : Nat := 209
end Go.Proofs.YtneiicadhjdbiaaGreat.Ab

namespace Go.Proofs.YtneiicadhjdbiaaGreat.Ab
open Go

def c_laws_FnExactRanksOf : CC := (.seq (.ops [⟨(some 2), none, (.e (.box (.t 0)))⟩, ⟨(some 4), none, (.f (.mv (.k (.bool false))))⟩]) (.seq (.ops [⟨(some 5), none, (.f (.mv (.k (.int .i64 1048576))))⟩]) (.seq (.ops [⟨(some 13), none, (.f (.ld 9 (.t 2)))⟩, ⟨(some 14), none, (.f (.mv (.t 5)))⟩, ⟨(some 15), none, (.e (.call false F.laws_szBook [(.t 13), (.t 14)]))⟩, ⟨(some 5), none, (.f (.mv (.t 15)))⟩]) (.seq (.seq (.ops [⟨(some 16), none, (.f (.mv (.t 5)))⟩, ⟨(some 17), none, (.f (.bin .lss (.t 16) (.k (.int .i64 0))))⟩]) (.cond (.t 17) (.seq (.ops [⟨(some 4), none, (.f (.mv (.k (.bool true))))⟩]) .ret) .skip)) (.seq (.ops [⟨(some 18), none, (.f (.ld 9 (.t 2)))⟩, ⟨(some 19), none, (.e (.call false F.laws_toBook [(.t 18)]))⟩, ⟨(some 20), none, (.f (.mv (.t 1)))⟩, ⟨(some 21), none, (.e (.call false F.spec_RanksOf [(.t 19), (.t 20)]))⟩, ⟨(some 6), none, (.f (.mv (.t 21)))⟩]) (.seq (.ops [⟨(some 22), none, (.f (.ld 9 (.t 2)))⟩, ⟨(some 23), none, (.e (.call false F.laws_toBook [(.t 22)]))⟩, ⟨(some 7), none, (.e (.new [.nil, (.v (.int .i64 0)), (.v (.int .i64 0)), (.v (.int .i64 0)), .nil, (.v (.bool false)), .nil, .nil, .nil]))⟩, ⟨none, none, (.e (.st 9 (.t 7) (.t 23)))⟩]) (.seq (.ops [⟨(some 24), none, (.f (.ld 9 (.t 7)))⟩, ⟨(some 25), none, (.f (.mv (.t 1)))⟩, ⟨(some 26), none, (.e (.call false F.impl_RanksOf [(.t 24), (.t 25)]))⟩, ⟨(some 8), none, (.f (.mv (.t 26)))⟩]) (.seq (.seq (.ops [⟨(some 27), none, (.f (.mv (.t 8)))⟩, ⟨(some 28), none, (.f (.mv (.t 6)))⟩, ⟨(some 29), none, (.e (.call false F.laws_eqIntS [(.t 27), (.t 28)]))⟩, ⟨(some 30), none, (.f (.not (.t 29)))⟩]) (.cond (.t 30) (.seq (.ops [⟨(some 4), none, (.f (.mv (.k (.bool false))))⟩]) .ret) .skip)) (.seq (.seq (.ops [⟨(some 31), none, (.f (.ld 9 (.t 7)))⟩, ⟨(some 32), none, (.f (.ld 9 (.t 2)))⟩, ⟨(some 33), none, (.e (.call true F.laws_toBook [(.t 32)]))⟩, ⟨(some 34), none, (.e (.call false F.laws_eqBook [(.t 31), (.t 33)]))⟩, ⟨(some 35), none, (.f (.not (.t 34)))⟩]) (.cond (.t 35) (.seq (.ops [⟨(some 4), none, (.f (.mv (.k (.bool false))))⟩]) .ret) .skip)) (.seq (.ops [⟨(some 9), none, (.f (.mv (.k (.int .i64 1))))⟩]) (.seq (.ops [⟨(some 36), none, (.f (.ld 9 (.t 7)))⟩, ⟨(some 37), none, (.f (.mv (.t 9)))⟩, ⟨(some 38), none, (.e (.call false F.laws_markBook [(.t 36), (.t 37)]))⟩, ⟨(some 9), none, (.f (.mv (.t 38)))⟩]) (.seq (.seq (.ops [⟨(some 39), none, (.f (.mv (.t 9)))⟩, ⟨(some 40), none, (.f (.bin .lss (.t 39) (.k (.int .i64 0))))⟩, ⟨(some 41), none, (.f (.mv (.t 40)))⟩, ⟨(some 42), (some (41, false)), (.f (.mv (.t 8)))⟩, ⟨(some 43), (some (41, false)), (.f (.mv (.t 6)))⟩, ⟨(some 44), (some (41, false)), (.e (.call false F.laws_eqIntS [(.t 42), (.t 43)]))⟩, ⟨(some 45), (some (41, false)), (.f (.not (.t 44)))⟩, ⟨(some 46), none, (.f (.pick (.t 41) (.k (.bool true)) (.t 45)))⟩]) (.cond (.t 46) (.seq (.ops [⟨(some 4), none, (.f (.mv (.k (.bool false))))⟩]) .ret) .skip)) (.seq (.ops [⟨(some 10), none, (.f (.mv (.k (.int .i64 1))))⟩]) (.seq (.ops [⟨(some 47), none, (.f (.mv (.t 8)))⟩, ⟨(some 48), none, (.f (.mv (.t 10)))⟩, ⟨(some 49), none, (.e (.call false F.laws_markIntS [(.t 47), (.t 48)]))⟩, ⟨(some 10), none, (.f (.mv (.t 49)))⟩]) (.seq (.ops [⟨(some 11), none, (.f (.mv (.k (.int .i64 1))))⟩]) (.seq (.ops [⟨(some 50), none, (.f (.mv (.t 8)))⟩, ⟨(some 51), none, (.f (.mv (.t 11)))⟩, ⟨(some 52), none, (.e (.call false F.laws_heldIntS [(.t 50), (.t 51)]))⟩, ⟨(some 11), none, (.f (.mv (.t 52)))⟩]) (.seq (.seq (.ops [⟨(some 53), none, (.f (.mv (.t 11)))⟩, ⟨(some 54), none, (.f (.bin .lss (.t 53) (.k (.int .i64 0))))⟩]) (.cond (.t 54) (.seq (.ops [⟨(some 4), none, (.f (.mv (.k (.bool false))))⟩]) .ret) .skip)) (.seq (.seq (.ops [⟨(some 55), none, (.f (.mv (.t 11)))⟩, ⟨(some 56), none, (.f (.mv (.t 10)))⟩, ⟨(some 57), none, (.f (.bin .neq (.t 55) (.t 56)))⟩]) (.cond (.t 57) (.seq (.ops [⟨(some 4), none, (.f (.mv (.k (.bool false))))⟩]) .ret) .skip)) (.seq (.ops [⟨(some 58), none, (.f (.ld 9 (.t 2)))⟩, ⟨(some 59), none, (.e (.call false F.laws_toBook [(.t 58)]))⟩, ⟨(some 60), none, (.f (.mv (.t 1)))⟩, ⟨(some 61), none, (.e (.call false F.impl_RanksOf [(.t 59), (.t 60)]))⟩, ⟨(some 12), none, (.f (.mv (.t 61)))⟩]) (.seq (.seq (.ops [⟨(some 62), none, (.f (.mv (.t 12)))⟩, ⟨(some 63), none, (.f (.mv (.t 6)))⟩, ⟨(some 64), none, (.e (.call false F.laws_eqIntS [(.t 62), (.t 63)]))⟩, ⟨(some 65), none, (.f (.not (.t 64)))⟩]) (.cond (.t 65) (.seq (.ops [⟨(some 4), none, (.f (.mv (.k (.bool false))))⟩]) .ret) .skip)) (.seq (.ops [⟨(some 11), none, (.f (.mv (.k (.int .i64 1))))⟩]) (.seq (.ops [⟨(some 66), none, (.f (.mv (.t 8)))⟩, ⟨(some 67), none, (.f (.mv (.t 11)))⟩, ⟨(some 68), none, (.e (.call false F.laws_heldIntS [(.t 66), (.t 67)]))⟩, ⟨(some 11), none, (.f (.mv (.t 68)))⟩]) (.seq (.seq (.ops [⟨(some 69), none, (.f (.mv (.t 11)))⟩, ⟨(some 70), none, (.f (.bin .lss (.t 69) (.k (.int .i64 0))))⟩]) (.cond (.t 70) (.seq (.ops [⟨(some 4), none, (.f (.mv (.k (.bool false))))⟩]) .ret) .skip)) (.seq (.seq (.ops [⟨(some 71), none, (.f (.mv (.t 11)))⟩, ⟨(some 72), none, (.f (.mv (.t 10)))⟩, ⟨(some 73), none, (.f (.bin .neq (.t 71) (.t 72)))⟩]) (.cond (.t 73) (.seq (.ops [⟨(some 4), none, (.f (.mv (.k (.bool false))))⟩]) .ret) .skip)) (.seq (.ops [⟨(some 4), none, (.f (.mv (.k (.bool true))))⟩]) .ret)))))))))))))))))))))))))
theorem k_laws_FnExactRanksOf : compFn Tryz.prog [] F.laws_FnExactRanksOf = some (c_laws_FnExactRanksOf, [(.t 4)], 74) := by kernel_rfl

def c_laws_szBook : CC := (.seq (.ops [⟨(some 2), none, (.e (.box (.t 0)))⟩, ⟨(some 4), none, (.f (.mv (.k (.int .i64 0))))⟩]) (.seq (.ops [⟨(some 5), none, (.f (.fa 0 (.t 2)))⟩, ⟨(some 6), none, (.f (.ld1 (.t 5)))⟩, ⟨(some 7), none, (.f (.mv (.t 1)))⟩, ⟨(some 8), none, (.e (.call false F.laws_szTeamS [(.t 6), (.t 7)]))⟩, ⟨(some 1), none, (.f (.mv (.t 8)))⟩]) (.seq (.seq (.ops [⟨(some 9), none, (.f (.mv (.t 1)))⟩, ⟨(some 10), none, (.f (.bin .lss (.t 9) (.k (.int .i64 0))))⟩]) (.cond (.t 10) (.seq (.ops [⟨(some 4), none, (.f (.mv (.k (.int .i64 (-1)))))⟩]) .ret) .skip)) (.seq (.ops [⟨(some 11), none, (.f (.fa 1 (.t 2)))⟩, ⟨(some 12), none, (.f (.ld 5 (.t 11)))⟩, ⟨(some 13), none, (.f (.mv (.t 1)))⟩, ⟨(some 14), none, (.e (.call false F.laws_szRules [(.t 12), (.t 13)]))⟩, ⟨(some 1), none, (.f (.mv (.t 14)))⟩]) (.seq (.seq (.ops [⟨(some 15), none, (.f (.mv (.t 1)))⟩, ⟨(some 16), none, (.f (.bin .lss (.t 15) (.k (.int .i64 0))))⟩]) (.cond (.t 16) (.seq (.ops [⟨(some 4), none, (.f (.mv (.k (.int .i64 (-1)))))⟩]) .ret) .skip)) (.seq (.ops [⟨(some 17), none, (.f (.fa 6 (.t 2)))⟩, ⟨(some 18), none, (.f (.ld1 (.t 17)))⟩, ⟨(some 19), none, (.f (.mv (.t 1)))⟩, ⟨(some 20), none, (.e (.call false F.laws_szGameS [(.t 18), (.t 19)]))⟩, ⟨(some 1), none, (.f (.mv (.t 20)))⟩]) (.seq (.seq (.ops [⟨(some 21), none, (.f (.mv (.t 1)))⟩, ⟨(some 22), none, (.f (.bin .lss (.t 21) (.k (.int .i64 0))))⟩]) (.cond (.t 22) (.seq (.ops [⟨(some 4), none, (.f (.mv (.k (.int .i64 (-1)))))⟩]) .ret) .skip)) (.seq (.ops [⟨(some 23), none, (.f (.fa 7 (.t 2)))⟩, ⟨(some 24), none, (.f (.ld1 (.t 23)))⟩, ⟨(some 25), none, (.f (.mv (.t 1)))⟩, ⟨(some 26), none, (.e (.call false F.laws_szIntS [(.t 24), (.t 25)]))⟩, ⟨(some 1), none, (.f (.mv (.t 26)))⟩]) (.seq (.seq (.ops [⟨(some 27), none, (.f (.mv (.t 1)))⟩, ⟨(some 28), none, (.f (.bin .lss (.t 27) (.k (.int .i64 0))))⟩]) (.cond (.t 28) (.seq (.ops [⟨(some 4), none, (.f (.mv (.k (.int .i64 (-1)))))⟩]) .ret) .skip)) (.seq (.ops [⟨(some 29), none, (.f (.fa 8 (.t 2)))⟩, ⟨(some 30), none, (.f (.ld1 (.t 29)))⟩, ⟨(some 31), none, (.f (.mv (.t 1)))⟩, ⟨(some 32), none, (.e (.call false F.laws_szIntS [(.t 30), (.t 31)]))⟩, ⟨(some 1), none, (.f (.mv (.t 32)))⟩]) (.seq (.seq (.ops [⟨(some 33), none, (.f (.mv (.t 1)))⟩, ⟨(some 34), none, (.f (.bin .lss (.t 33) (.k (.int .i64 0))))⟩]) (.cond (.t 34) (.seq (.ops [⟨(some 4), none, (.f (.mv (.k (.int .i64 (-1)))))⟩]) .ret) .skip)) (.seq (.ops [⟨(some 35), none, (.f (.mv (.t 1)))⟩, ⟨(some 4), none, (.f (.mv (.t 35)))⟩]) .ret))))))))))))
theorem k_laws_szBook : compFn Tryz.prog [] F.laws_szBook = some (c_laws_szBook, [(.t 4)], 36) := by kernel_rfl

def c_laws_toBook : CC := (.seq (.ops [⟨(some 1), none, (.e (.box (.t 0)))⟩, ⟨(some 2), none, (.e (.new [.nil, (.v (.int .i64 0)), (.v (.int .i64 0)), (.v (.int .i64 0)), .nil, (.v (.bool false)), .nil, .nil, .nil]))⟩]) (.seq (.ops [⟨(some 3), none, (.e (.new [.nil, (.v (.int .i64 0)), (.v (.int .i64 0)), (.v (.int .i64 0)), .nil, (.v (.bool false)), .nil, .nil, .nil]))⟩]) (.seq (.ops [⟨(some 4), none, (.f (.fa 0 (.t 1)))⟩, ⟨(some 5), none, (.f (.ld1 (.t 4)))⟩, ⟨(some 6), none, (.e (.call false F.laws_toTeamS [(.t 5)]))⟩, ⟨(some 7), none, (.f (.fa 0 (.t 3)))⟩, ⟨none, none, (.e (.st 1 (.t 7) (.t 6)))⟩]) (.seq (.ops [⟨(some 8), none, (.f (.fa 1 (.t 1)))⟩, ⟨(some 9), none, (.f (.ld 5 (.t 8)))⟩, ⟨(some 10), none, (.e (.call false F.laws_toRules [(.t 9)]))⟩, ⟨(some 11), none, (.f (.fa 1 (.t 3)))⟩, ⟨none, none, (.e (.st 5 (.t 11) (.t 10)))⟩]) (.seq (.ops [⟨(some 12), none, (.f (.fa 6 (.t 1)))⟩, ⟨(some 13), none, (.f (.ld1 (.t 12)))⟩, ⟨(some 14), none, (.e (.call false F.laws_toGameS [(.t 13)]))⟩, ⟨(some 15), none, (.f (.fa 6 (.t 3)))⟩, ⟨none, none, (.e (.st 1 (.t 15) (.t 14)))⟩]) (.seq (.ops [⟨(some 16), none, (.f (.fa 7 (.t 1)))⟩, ⟨(some 17), none, (.f (.ld1 (.t 16)))⟩, ⟨(some 18), none, (.e (.call false F.laws_toIntS [(.t 17)]))⟩, ⟨(some 19), none, (.f (.fa 7 (.t 3)))⟩, ⟨none, none, (.e (.st 1 (.t 19) (.t 18)))⟩]) (.seq (.ops [⟨(some 20), none, (.f (.fa 8 (.t 1)))⟩, ⟨(some 21), none, (.f (.ld1 (.t 20)))⟩, ⟨(some 22), none, (.e (.call false F.laws_toIntS [(.t 21)]))⟩, ⟨(some 23), none, (.f (.fa 8 (.t 3)))⟩, ⟨none, none, (.e (.st 1 (.t 23) (.t 22)))⟩]) (.seq (.ops [⟨(some 24), none, (.f (.ld 9 (.t 3)))⟩, ⟨none, none, (.e (.st 9 (.t 2) (.t 24)))⟩]) .ret))))))))
theorem k_laws_toBook : compFn Tryz.prog [] F.laws_toBook = some (c_laws_toBook, [(.cl 9 2)], 25) := by kernel_rfl

def c_laws_eqBook : CC := (.seq (.ops [⟨(some 2), none, (.e (.box (.t 0)))⟩, ⟨(some 3), none, (.e (.box (.t 1)))⟩, ⟨(some 4), none, (.f (.mv (.k (.bool false))))⟩]) (.seq (.seq (.ops [⟨(some 5), none, (.f (.fa 0 (.t 2)))⟩, ⟨(some 6), none, (.f (.ld1 (.t 5)))⟩, ⟨(some 7), none, (.f (.fa 0 (.t 3)))⟩, ⟨(some 8), none, (.f (.ld1 (.t 7)))⟩, ⟨(some 9), none, (.e (.call false F.laws_eqTeamS [(.t 6), (.t 8)]))⟩, ⟨(some 10), none, (.f (.not (.t 9)))⟩]) (.cond (.t 10) (.seq (.ops [⟨(some 4), none, (.f (.mv (.k (.bool false))))⟩]) .ret) .skip)) (.seq (.seq (.ops [⟨(some 11), none, (.f (.fa 1 (.t 2)))⟩, ⟨(some 12), none, (.f (.ld 5 (.t 11)))⟩, ⟨(some 13), none, (.f (.fa 1 (.t 3)))⟩, ⟨(some 14), none, (.f (.ld 5 (.t 13)))⟩, ⟨(some 15), none, (.e (.call false F.laws_eqRules [(.t 12), (.t 14)]))⟩, ⟨(some 16), none, (.f (.not (.t 15)))⟩]) (.cond (.t 16) (.seq (.ops [⟨(some 4), none, (.f (.mv (.k (.bool false))))⟩]) .ret) .skip)) (.seq (.seq (.ops [⟨(some 17), none, (.f (.fa 6 (.t 2)))⟩, ⟨(some 18), none, (.f (.ld1 (.t 17)))⟩, ⟨(some 19), none, (.f (.fa 6 (.t 3)))⟩, ⟨(some 20), none, (.f (.ld1 (.t 19)))⟩, ⟨(some 21), none, (.e (.call false F.laws_eqGameS [(.t 18), (.t 20)]))⟩, ⟨(some 22), none, (.f (.not (.t 21)))⟩]) (.cond (.t 22) (.seq (.ops [⟨(some 4), none, (.f (.mv (.k (.bool false))))⟩]) .ret) .skip)) (.seq (.seq (.ops [⟨(some 23), none, (.f (.fa 7 (.t 2)))⟩, ⟨(some 24), none, (.f (.ld1 (.t 23)))⟩, ⟨(some 25), none, (.f (.fa 7 (.t 3)))⟩, ⟨(some 26), none, (.f (.ld1 (.t 25)))⟩, ⟨(some 27), none, (.e (.call false F.laws_eqIntS [(.t 24), (.t 26)]))⟩, ⟨(some 28), none, (.f (.not (.t 27)))⟩]) (.cond (.t 28) (.seq (.ops [⟨(some 4), none, (.f (.mv (.k (.bool false))))⟩]) .ret) .skip)) (.seq (.seq (.ops [⟨(some 29), none, (.f (.fa 8 (.t 2)))⟩, ⟨(some 30), none, (.f (.ld1 (.t 29)))⟩, ⟨(some 31), none, (.f (.fa 8 (.t 3)))⟩, ⟨(some 32), none, (.f (.ld1 (.t 31)))⟩, ⟨(some 33), none, (.e (.call false F.laws_eqIntS [(.t 30), (.t 32)]))⟩, ⟨(some 34), none, (.f (.not (.t 33)))⟩]) (.cond (.t 34) (.seq (.ops [⟨(some 4), none, (.f (.mv (.k (.bool false))))⟩]) .ret) .skip)) (.seq (.ops [⟨(some 4), none, (.f (.mv (.k (.bool true))))⟩]) .ret)))))))
theorem k_laws_eqBook : compFn Tryz.prog [] F.laws_eqBook = some (c_laws_eqBook, [(.t 4)], 35) := by kernel_rfl

def c_laws_markBook : CC := (.seq (.ops [⟨(some 2), none, (.e (.box (.t 0)))⟩, ⟨(some 4), none, (.f (.mv (.k (.int .i64 0))))⟩]) (.seq (.ops [⟨(some 5), none, (.f (.fa 0 (.t 2)))⟩, ⟨(some 6), none, (.f (.ld1 (.t 5)))⟩, ⟨(some 7), none, (.f (.mv (.t 1)))⟩, ⟨(some 8), none, (.e (.call false F.laws_markTeamS [(.t 6), (.t 7)]))⟩, ⟨(some 1), none, (.f (.mv (.t 8)))⟩]) (.seq (.ops [⟨(some 9), none, (.f (.fa 1 (.t 2)))⟩, ⟨(some 10), none, (.f (.ld 5 (.t 9)))⟩, ⟨(some 11), none, (.f (.mv (.t 1)))⟩, ⟨(some 12), none, (.e (.call false F.laws_markRules [(.t 10), (.t 11)]))⟩, ⟨(some 1), none, (.f (.mv (.t 12)))⟩]) (.seq (.ops [⟨(some 13), none, (.f (.fa 6 (.t 2)))⟩, ⟨(some 14), none, (.f (.ld1 (.t 13)))⟩, ⟨(some 15), none, (.f (.mv (.t 1)))⟩, ⟨(some 16), none, (.e (.call false F.laws_markGameS [(.t 14), (.t 15)]))⟩, ⟨(some 1), none, (.f (.mv (.t 16)))⟩]) (.seq (.ops [⟨(some 17), none, (.f (.fa 7 (.t 2)))⟩, ⟨(some 18), none, (.f (.ld1 (.t 17)))⟩, ⟨(some 19), none, (.f (.mv (.t 1)))⟩, ⟨(some 20), none, (.e (.call false F.laws_markIntS [(.t 18), (.t 19)]))⟩, ⟨(some 1), none, (.f (.mv (.t 20)))⟩]) (.seq (.ops [⟨(some 21), none, (.f (.fa 8 (.t 2)))⟩, ⟨(some 22), none, (.f (.ld1 (.t 21)))⟩, ⟨(some 23), none, (.f (.mv (.t 1)))⟩, ⟨(some 24), none, (.e (.call false F.laws_markIntS [(.t 22), (.t 23)]))⟩, ⟨(some 1), none, (.f (.mv (.t 24)))⟩]) (.seq (.ops [⟨(some 25), none, (.f (.mv (.t 1)))⟩, ⟨(some 4), none, (.f (.mv (.t 25)))⟩]) .ret)))))))
theorem k_laws_markBook : compFn Tryz.prog [] F.laws_markBook = some (c_laws_markBook, [(.t 4)], 26) := by kernel_rfl

def c_spec_RanksOf : CC := (.seq (.ops [⟨(some 2), none, (.e (.box (.t 0)))⟩, ⟨(some 4), none, (.f (.mv .nil))⟩]) (.seq (.ops [⟨(some 8), none, (.f (.ld 9 (.t 2)))⟩, ⟨(some 9), none, (.f (.mv (.t 1)))⟩, ⟨(some 10), none, (.e (.call false F.spec_l16Ranks [(.t 8), (.t 9)]))⟩, ⟨(some 5), none, (.f (.mv (.t 10)))⟩]) (.seq (.ops [⟨(some 11), none, (.e (.mks 1 0 [(.v (.int .i64 0))] []))⟩, ⟨(some 6), none, (.f (.mv (.t 11)))⟩]) (.seq (.seq (.ops [⟨(some 7), none, (.f (.mv (.k (.int .i64 1))))⟩]) (.block 0 (.loop (.seq (.seq (.ops [⟨(some 12), none, (.f (.mv (.t 7)))⟩, ⟨(some 13), none, (.f (.bin .leq (.t 12) (.k (.int .i64 8))))⟩]) (.cond (.t 13) .skip (.exit 0))) (.seq (.block 1 (.seq (.ops [⟨(some 16), none, (.f (.mv (.t 5)))⟩, ⟨(some 17), none, (.f (.mv (.t 7)))⟩, ⟨(some 18), none, (.e (.call false F.spec_l02Has [(.t 16), (.t 17)]))⟩]) (.cond (.t 18) (.ops [⟨(some 19), none, (.f (.mv (.t 6)))⟩, ⟨(some 20), none, (.f (.mv (.t 7)))⟩, ⟨(some 21), none, (.e (.mks 1 1 [(.v (.int .i64 0))] [(0, (1, (.t 20)))]))⟩, ⟨(some 22), none, (.e (.app 1 8 (.t 19) (.t 21)))⟩, ⟨(some 6), none, (.f (.mv (.t 22)))⟩]) .skip))) (.ops [⟨(some 14), none, (.f (.mv (.t 7)))⟩, ⟨(some 15), none, (.f (.bin .add (.t 14) (.k (.int .i64 1))))⟩, ⟨(some 7), none, (.f (.mv (.t 15)))⟩])))))) (.seq (.ops [⟨(some 23), none, (.f (.mv (.t 6)))⟩, ⟨(some 4), none, (.f (.mv (.t 23)))⟩]) .ret)))))
theorem k_spec_RanksOf : compFn Tryz.prog [] F.spec_RanksOf = some (c_spec_RanksOf, [(.t 4)], 24) := by kernel_rfl

def c_impl_RanksOf : CC := (.seq (.ops [⟨(some 2), none, (.e (.box (.t 0)))⟩, ⟨(some 4), none, (.f (.mv .nil))⟩]) (.seq (.ops [⟨(some 8), none, (.e (.mks 1 0 [(.v (.int .i64 0))] []))⟩, ⟨(some 5), none, (.f (.mv (.t 8)))⟩]) (.seq (.seq (.ops [⟨(some 9), none, (.f (.ld 9 (.t 2)))⟩, ⟨(some 10), none, (.f (.mv (.t 1)))⟩, ⟨(some 11), none, (.e (.call false F.impl_endings [(.t 9), (.t 10)]))⟩, ⟨(some 12), none, (.f (.len (.t 11)))⟩, ⟨(some 13), none, (.f (.mv (.k (.int .i64 0))))⟩]) (.block 0 (.loop (.seq (.ops [⟨(some 14), none, (.f (.bin .lss (.t 13) (.t 12)))⟩]) (.seq (.cond (.t 14) .skip (.exit 0)) (.seq (.block 1 (.seq (.ops [⟨(some 15), none, (.f (.ia 2 (.t 11) (.t 13)))⟩, ⟨(some 16), none, (.f (.ld 2 (.t 15)))⟩, ⟨(some 7), none, (.e (.new [.nil, .nil]))⟩, ⟨none, none, (.e (.st 2 (.t 7) (.t 16)))⟩]) (.ops [⟨(some 17), none, (.f (.mv (.t 5)))⟩, ⟨(some 18), none, (.f (.fa 1 (.t 7)))⟩, ⟨(some 19), none, (.f (.ld1 (.t 18)))⟩, ⟨(some 20), none, (.f (.mv (.t 1)))⟩, ⟨(some 21), none, (.f (.ia 1 (.t 19) (.t 20)))⟩, ⟨(some 22), none, (.f (.ld1 (.t 21)))⟩, ⟨(some 23), none, (.e (.mks 1 1 [(.v (.int .i64 0))] [(0, (1, (.t 22)))]))⟩, ⟨(some 24), none, (.e (.app 1 8 (.t 17) (.t 23)))⟩, ⟨(some 5), none, (.f (.mv (.t 24)))⟩]))) (.ops [⟨(some 25), none, (.f (.bin .add (.t 13) (.k (.int .i64 1))))⟩, ⟨(some 13), none, (.f (.mv (.t 25)))⟩]))))))) (.seq (.ops [⟨(some 26), none, (.f (.mv (.t 5)))⟩, ⟨(some 27), none, (.e (.call false F.slices_Sort_int [(.t 26)]))⟩]) (.seq (.ops [⟨(some 28), none, (.f (.mv (.t 5)))⟩, ⟨(some 29), none, (.e (.call false F.slices_Compact_int [(.t 28)]))⟩, ⟨(some 4), none, (.f (.mv (.t 29)))⟩]) .ret)))))
theorem k_impl_RanksOf : compFn Tryz.prog [] F.impl_RanksOf = some (c_impl_RanksOf, [(.t 4)], 30) := by kernel_rfl

def c_laws_eqIntS : CC := (.seq (.ops [⟨(some 4), none, (.f (.mv (.k (.bool false))))⟩]) (.seq (.seq (.ops [⟨(some 6), none, (.f (.mv (.t 0)))⟩, ⟨(some 7), none, (.f (.len (.t 6)))⟩, ⟨(some 8), none, (.f (.mv (.t 1)))⟩, ⟨(some 9), none, (.f (.len (.t 8)))⟩, ⟨(some 10), none, (.f (.bin .neq (.t 7) (.t 9)))⟩]) (.cond (.t 10) (.seq (.ops [⟨(some 4), none, (.f (.mv (.k (.bool false))))⟩]) .ret) .skip)) (.seq (.seq (.ops [⟨(some 5), none, (.f (.mv (.k (.int .i64 0))))⟩]) (.block 0 (.loop (.seq (.seq (.ops [⟨(some 11), none, (.f (.mv (.t 5)))⟩, ⟨(some 12), none, (.f (.mv (.t 0)))⟩, ⟨(some 13), none, (.f (.len (.t 12)))⟩, ⟨(some 14), none, (.f (.bin .lss (.t 11) (.t 13)))⟩]) (.cond (.t 14) .skip (.exit 0))) (.seq (.block 1 (.seq (.ops [⟨(some 17), none, (.f (.mv (.t 0)))⟩, ⟨(some 18), none, (.f (.mv (.t 5)))⟩, ⟨(some 19), none, (.f (.ia 1 (.t 17) (.t 18)))⟩, ⟨(some 20), none, (.f (.ld1 (.t 19)))⟩, ⟨(some 21), none, (.f (.mv (.t 1)))⟩, ⟨(some 22), none, (.f (.mv (.t 5)))⟩, ⟨(some 23), none, (.f (.ia 1 (.t 21) (.t 22)))⟩, ⟨(some 24), none, (.f (.ld1 (.t 23)))⟩, ⟨(some 25), none, (.f (.bin .neq (.t 20) (.t 24)))⟩]) (.cond (.t 25) (.seq (.ops [⟨(some 4), none, (.f (.mv (.k (.bool false))))⟩]) .ret) .skip))) (.ops [⟨(some 15), none, (.f (.mv (.t 5)))⟩, ⟨(some 16), none, (.f (.bin .add (.t 15) (.k (.int .i64 1))))⟩, ⟨(some 5), none, (.f (.mv (.t 16)))⟩])))))) (.seq (.ops [⟨(some 4), none, (.f (.mv (.k (.bool true))))⟩]) .ret))))
theorem k_laws_eqIntS : compFn Tryz.prog [] F.laws_eqIntS = some (c_laws_eqIntS, [(.t 4)], 26) := by kernel_rfl

def c_laws_markIntS : CC := (.seq (.ops [⟨(some 4), none, (.f (.mv (.k (.int .i64 0))))⟩]) (.seq (.seq (.ops [⟨(some 5), none, (.f (.mv (.k (.int .i64 0))))⟩]) (.block 0 (.loop (.seq (.seq (.ops [⟨(some 6), none, (.f (.mv (.t 5)))⟩, ⟨(some 7), none, (.f (.mv (.t 0)))⟩, ⟨(some 8), none, (.f (.len (.t 7)))⟩, ⟨(some 9), none, (.f (.bin .lss (.t 6) (.t 8)))⟩]) (.cond (.t 9) .skip (.exit 0))) (.seq (.block 1 (.seq (.ops [⟨(some 12), none, (.f (.mv (.t 0)))⟩, ⟨(some 13), none, (.f (.mv (.t 5)))⟩, ⟨(some 14), none, (.f (.mv (.t 1)))⟩, ⟨(some 15), none, (.f (.ia 1 (.t 12) (.t 13)))⟩, ⟨none, none, (.e (.st 1 (.t 15) (.t 14)))⟩]) (.ops [⟨(some 16), none, (.f (.mv (.t 1)))⟩, ⟨(some 17), none, (.f (.bin .add (.t 16) (.k (.int .i64 1))))⟩, ⟨(some 1), none, (.f (.mv (.t 17)))⟩]))) (.ops [⟨(some 10), none, (.f (.mv (.t 5)))⟩, ⟨(some 11), none, (.f (.bin .add (.t 10) (.k (.int .i64 1))))⟩, ⟨(some 5), none, (.f (.mv (.t 11)))⟩])))))) (.seq (.ops [⟨(some 18), none, (.f (.mv (.t 1)))⟩, ⟨(some 4), none, (.f (.mv (.t 18)))⟩]) .ret)))
theorem k_laws_markIntS : compFn Tryz.prog [] F.laws_markIntS = some (c_laws_markIntS, [(.t 4)], 19) := by kernel_rfl

def c_laws_heldIntS : CC := (.seq (.ops [⟨(some 4), none, (.f (.mv (.k (.int .i64 0))))⟩]) (.seq (.seq (.ops [⟨(some 5), none, (.f (.mv (.k (.int .i64 0))))⟩]) (.block 0 (.loop (.seq (.seq (.ops [⟨(some 6), none, (.f (.mv (.t 5)))⟩, ⟨(some 7), none, (.f (.mv (.t 0)))⟩, ⟨(some 8), none, (.f (.len (.t 7)))⟩, ⟨(some 9), none, (.f (.bin .lss (.t 6) (.t 8)))⟩]) (.cond (.t 9) .skip (.exit 0))) (.seq (.block 1 (.seq (.seq (.ops [⟨(some 12), none, (.f (.mv (.t 0)))⟩, ⟨(some 13), none, (.f (.mv (.t 5)))⟩, ⟨(some 14), none, (.f (.ia 1 (.t 12) (.t 13)))⟩, ⟨(some 15), none, (.f (.ld1 (.t 14)))⟩, ⟨(some 16), none, (.f (.mv (.t 1)))⟩, ⟨(some 17), none, (.f (.bin .neq (.t 15) (.t 16)))⟩]) (.cond (.t 17) (.seq (.ops [⟨(some 4), none, (.f (.mv (.k (.int .i64 (-1)))))⟩]) .ret) .skip)) (.ops [⟨(some 18), none, (.f (.mv (.t 1)))⟩, ⟨(some 19), none, (.f (.bin .add (.t 18) (.k (.int .i64 1))))⟩, ⟨(some 1), none, (.f (.mv (.t 19)))⟩]))) (.ops [⟨(some 10), none, (.f (.mv (.t 5)))⟩, ⟨(some 11), none, (.f (.bin .add (.t 10) (.k (.int .i64 1))))⟩, ⟨(some 5), none, (.f (.mv (.t 11)))⟩])))))) (.seq (.ops [⟨(some 20), none, (.f (.mv (.t 1)))⟩, ⟨(some 4), none, (.f (.mv (.t 20)))⟩]) .ret)))
theorem k_laws_heldIntS : compFn Tryz.prog [] F.laws_heldIntS = some (c_laws_heldIntS, [(.t 4)], 21) := by kernel_rfl

def c_laws_szTeamS : CC := (.seq (.ops [⟨(some 4), none, (.f (.mv (.k (.int .i64 0))))⟩]) (.seq (.ops [⟨(some 6), none, (.f (.mv (.t 1)))⟩, ⟨(some 7), none, (.f (.mv (.t 0)))⟩, ⟨(some 8), none, (.f (.len (.t 7)))⟩, ⟨(some 9), none, (.f (.bin .sub (.t 6) (.t 8)))⟩, ⟨(some 1), none, (.f (.mv (.t 9)))⟩]) (.seq (.seq (.ops [⟨(some 10), none, (.f (.mv (.t 1)))⟩, ⟨(some 11), none, (.f (.bin .lss (.t 10) (.k (.int .i64 0))))⟩]) (.cond (.t 11) (.seq (.ops [⟨(some 4), none, (.f (.mv (.k (.int .i64 (-1)))))⟩]) .ret) .skip)) (.seq (.seq (.ops [⟨(some 5), none, (.f (.mv (.k (.int .i64 0))))⟩]) (.block 0 (.loop (.seq (.seq (.ops [⟨(some 12), none, (.f (.mv (.t 5)))⟩, ⟨(some 13), none, (.f (.mv (.t 0)))⟩, ⟨(some 14), none, (.f (.len (.t 13)))⟩, ⟨(some 15), none, (.f (.bin .lss (.t 12) (.t 14)))⟩]) (.cond (.t 15) .skip (.exit 0))) (.seq (.block 1 (.seq (.ops [⟨(some 18), none, (.f (.mv (.t 0)))⟩, ⟨(some 19), none, (.f (.mv (.t 5)))⟩, ⟨(some 20), none, (.f (.ia 3 (.t 18) (.t 19)))⟩, ⟨(some 21), none, (.f (.ld 3 (.t 20)))⟩, ⟨(some 22), none, (.f (.mv (.t 1)))⟩, ⟨(some 23), none, (.e (.call false F.laws_szTeam [(.t 21), (.t 22)]))⟩, ⟨(some 1), none, (.f (.mv (.t 23)))⟩]) (.seq (.ops [⟨(some 24), none, (.f (.mv (.t 1)))⟩, ⟨(some 25), none, (.f (.bin .lss (.t 24) (.k (.int .i64 0))))⟩]) (.cond (.t 25) (.seq (.ops [⟨(some 4), none, (.f (.mv (.k (.int .i64 (-1)))))⟩]) .ret) .skip)))) (.ops [⟨(some 16), none, (.f (.mv (.t 5)))⟩, ⟨(some 17), none, (.f (.bin .add (.t 16) (.k (.int .i64 1))))⟩, ⟨(some 5), none, (.f (.mv (.t 17)))⟩])))))) (.seq (.ops [⟨(some 26), none, (.f (.mv (.t 1)))⟩, ⟨(some 4), none, (.f (.mv (.t 26)))⟩]) .ret)))))
theorem k_laws_szTeamS : compFn Tryz.prog [] F.laws_szTeamS = some (c_laws_szTeamS, [(.t 4)], 27) := by kernel_rfl

def c_laws_szRules : CC := (.seq (.ops [⟨(some 2), none, (.e (.box (.t 0)))⟩, ⟨(some 4), none, (.f (.mv (.k (.int .i64 0))))⟩]) (.seq (.ops [⟨(some 5), none, (.f (.fa 3 (.t 2)))⟩, ⟨(some 6), none, (.f (.ld1 (.t 5)))⟩, ⟨(some 7), none, (.f (.mv (.t 1)))⟩, ⟨(some 8), none, (.e (.call false F.laws_szIntS [(.t 6), (.t 7)]))⟩, ⟨(some 1), none, (.f (.mv (.t 8)))⟩]) (.seq (.seq (.ops [⟨(some 9), none, (.f (.mv (.t 1)))⟩, ⟨(some 10), none, (.f (.bin .lss (.t 9) (.k (.int .i64 0))))⟩]) (.cond (.t 10) (.seq (.ops [⟨(some 4), none, (.f (.mv (.k (.int .i64 (-1)))))⟩]) .ret) .skip)) (.seq (.ops [⟨(some 11), none, (.f (.mv (.t 1)))⟩, ⟨(some 4), none, (.f (.mv (.t 11)))⟩]) .ret))))
theorem k_laws_szRules : compFn Tryz.prog [] F.laws_szRules = some (c_laws_szRules, [(.t 4)], 12) := by kernel_rfl

def c_laws_szGameS : CC := (.seq (.ops [⟨(some 4), none, (.f (.mv (.k (.int .i64 0))))⟩]) (.seq (.ops [⟨(some 5), none, (.f (.mv (.t 1)))⟩, ⟨(some 6), none, (.f (.mv (.t 0)))⟩, ⟨(some 7), none, (.f (.len (.t 6)))⟩, ⟨(some 8), none, (.f (.bin .sub (.t 5) (.t 7)))⟩, ⟨(some 1), none, (.f (.mv (.t 8)))⟩]) (.seq (.seq (.ops [⟨(some 9), none, (.f (.mv (.t 1)))⟩, ⟨(some 10), none, (.f (.bin .lss (.t 9) (.k (.int .i64 0))))⟩]) (.cond (.t 10) (.seq (.ops [⟨(some 4), none, (.f (.mv (.k (.int .i64 (-1)))))⟩]) .ret) .skip)) (.seq (.ops [⟨(some 11), none, (.f (.mv (.t 1)))⟩, ⟨(some 4), none, (.f (.mv (.t 11)))⟩]) .ret))))
theorem k_laws_szGameS : compFn Tryz.prog [] F.laws_szGameS = some (c_laws_szGameS, [(.t 4)], 12) := by kernel_rfl

def c_laws_szIntS : CC := (.seq (.ops [⟨(some 4), none, (.f (.mv (.k (.int .i64 0))))⟩]) (.seq (.ops [⟨(some 5), none, (.f (.mv (.t 1)))⟩, ⟨(some 6), none, (.f (.mv (.t 0)))⟩, ⟨(some 7), none, (.f (.len (.t 6)))⟩, ⟨(some 8), none, (.f (.bin .sub (.t 5) (.t 7)))⟩, ⟨(some 1), none, (.f (.mv (.t 8)))⟩]) (.seq (.seq (.ops [⟨(some 9), none, (.f (.mv (.t 1)))⟩, ⟨(some 10), none, (.f (.bin .lss (.t 9) (.k (.int .i64 0))))⟩]) (.cond (.t 10) (.seq (.ops [⟨(some 4), none, (.f (.mv (.k (.int .i64 (-1)))))⟩]) .ret) .skip)) (.seq (.ops [⟨(some 11), none, (.f (.mv (.t 1)))⟩, ⟨(some 4), none, (.f (.mv (.t 11)))⟩]) .ret))))
theorem k_laws_szIntS : compFn Tryz.prog [] F.laws_szIntS = some (c_laws_szIntS, [(.t 4)], 12) := by kernel_rfl

end Go.Proofs.YtneiicadhjdbiaaGreat.Ab

namespace Go.Proofs.YtneiicadhjdbiaaGreat.Ab
open Go

def c_laws_toTeamS : CC := (.seq (.ops [⟨(some 2), none, (.f (.mv .nil))⟩]) (.seq (.ops [⟨(some 5), none, (.f (.mv (.t 0)))⟩, ⟨(some 6), none, (.f (.len (.t 5)))⟩, ⟨(some 7), none, (.e (.mk 3 32 [(.v (.str [])), (.v (.int .i64 0)), (.v (.int .i64 0))] (.t 6) (.t 6)))⟩, ⟨(some 3), none, (.f (.mv (.t 7)))⟩]) (.seq (.seq (.ops [⟨(some 4), none, (.f (.mv (.k (.int .i64 0))))⟩]) (.block 0 (.loop (.seq (.seq (.ops [⟨(some 8), none, (.f (.mv (.t 4)))⟩, ⟨(some 9), none, (.f (.mv (.t 0)))⟩, ⟨(some 10), none, (.f (.len (.t 9)))⟩, ⟨(some 11), none, (.f (.bin .lss (.t 8) (.t 10)))⟩]) (.cond (.t 11) .skip (.exit 0))) (.seq (.block 1 (.ops [⟨(some 14), none, (.f (.mv (.t 3)))⟩, ⟨(some 15), none, (.f (.mv (.t 4)))⟩, ⟨(some 16), none, (.f (.mv (.t 0)))⟩, ⟨(some 17), none, (.f (.mv (.t 4)))⟩, ⟨(some 18), none, (.f (.ia 3 (.t 16) (.t 17)))⟩, ⟨(some 19), none, (.f (.ld 3 (.t 18)))⟩, ⟨(some 20), none, (.e (.call false F.laws_toTeam [(.t 19)]))⟩, ⟨(some 21), none, (.f (.ia 3 (.t 14) (.t 15)))⟩, ⟨none, none, (.e (.st 3 (.t 21) (.t 20)))⟩])) (.ops [⟨(some 12), none, (.f (.mv (.t 4)))⟩, ⟨(some 13), none, (.f (.bin .add (.t 12) (.k (.int .i64 1))))⟩, ⟨(some 4), none, (.f (.mv (.t 13)))⟩])))))) (.seq (.ops [⟨(some 22), none, (.f (.mv (.t 3)))⟩, ⟨(some 2), none, (.f (.mv (.t 22)))⟩]) .ret))))
theorem k_laws_toTeamS : compFn Tryz.prog [] F.laws_toTeamS = some (c_laws_toTeamS, [(.t 2)], 23) := by kernel_rfl

def c_laws_toRules : CC := (.seq (.ops [⟨(some 1), none, (.e (.box (.t 0)))⟩, ⟨(some 2), none, (.e (.new [(.v (.int .i64 0)), (.v (.int .i64 0)), (.v (.int .i64 0)), .nil, (.v (.bool false))]))⟩]) (.seq (.ops [⟨(some 3), none, (.e (.new [(.v (.int .i64 0)), (.v (.int .i64 0)), (.v (.int .i64 0)), .nil, (.v (.bool false))]))⟩]) (.seq (.ops [⟨(some 4), none, (.f (.fa 0 (.t 1)))⟩, ⟨(some 5), none, (.f (.ld1 (.t 4)))⟩, ⟨(some 6), none, (.f (.fa 0 (.t 3)))⟩, ⟨none, none, (.e (.st 1 (.t 6) (.t 5)))⟩]) (.seq (.ops [⟨(some 7), none, (.f (.fa 1 (.t 1)))⟩, ⟨(some 8), none, (.f (.ld1 (.t 7)))⟩, ⟨(some 9), none, (.f (.fa 1 (.t 3)))⟩, ⟨none, none, (.e (.st 1 (.t 9) (.t 8)))⟩]) (.seq (.ops [⟨(some 10), none, (.f (.fa 2 (.t 1)))⟩, ⟨(some 11), none, (.f (.ld1 (.t 10)))⟩, ⟨(some 12), none, (.f (.fa 2 (.t 3)))⟩, ⟨none, none, (.e (.st 1 (.t 12) (.t 11)))⟩]) (.seq (.ops [⟨(some 13), none, (.f (.fa 3 (.t 1)))⟩, ⟨(some 14), none, (.f (.ld1 (.t 13)))⟩, ⟨(some 15), none, (.e (.call false F.laws_toIntS [(.t 14)]))⟩, ⟨(some 16), none, (.f (.fa 3 (.t 3)))⟩, ⟨none, none, (.e (.st 1 (.t 16) (.t 15)))⟩]) (.seq (.ops [⟨(some 17), none, (.f (.fa 4 (.t 1)))⟩, ⟨(some 18), none, (.f (.ld1 (.t 17)))⟩, ⟨(some 19), none, (.f (.fa 4 (.t 3)))⟩, ⟨none, none, (.e (.st 1 (.t 19) (.t 18)))⟩]) (.seq (.ops [⟨(some 20), none, (.f (.ld 5 (.t 3)))⟩, ⟨none, none, (.e (.st 5 (.t 2) (.t 20)))⟩]) .ret))))))))
theorem k_laws_toRules : compFn Tryz.prog [] F.laws_toRules = some (c_laws_toRules, [(.cl 5 2)], 21) := by kernel_rfl

def c_laws_toGameS : CC := (.seq (.ops [⟨(some 2), none, (.f (.mv .nil))⟩]) (.seq (.ops [⟨(some 5), none, (.f (.mv (.t 0)))⟩, ⟨(some 6), none, (.f (.len (.t 5)))⟩, ⟨(some 7), none, (.e (.mk 5 40 [(.v (.int .i64 0)), (.v (.int .i64 0)), (.v (.int .i64 0)), (.v (.int .i64 0)), (.v (.int .i64 0))] (.t 6) (.t 6)))⟩, ⟨(some 3), none, (.f (.mv (.t 7)))⟩]) (.seq (.seq (.ops [⟨(some 4), none, (.f (.mv (.k (.int .i64 0))))⟩]) (.block 0 (.loop (.seq (.seq (.ops [⟨(some 8), none, (.f (.mv (.t 4)))⟩, ⟨(some 9), none, (.f (.mv (.t 0)))⟩, ⟨(some 10), none, (.f (.len (.t 9)))⟩, ⟨(some 11), none, (.f (.bin .lss (.t 8) (.t 10)))⟩]) (.cond (.t 11) .skip (.exit 0))) (.seq (.block 1 (.ops [⟨(some 14), none, (.f (.mv (.t 3)))⟩, ⟨(some 15), none, (.f (.mv (.t 4)))⟩, ⟨(some 16), none, (.f (.mv (.t 0)))⟩, ⟨(some 17), none, (.f (.mv (.t 4)))⟩, ⟨(some 18), none, (.f (.ia 5 (.t 16) (.t 17)))⟩, ⟨(some 19), none, (.f (.ld 5 (.t 18)))⟩, ⟨(some 20), none, (.e (.call false F.laws_toGame [(.t 19)]))⟩, ⟨(some 21), none, (.f (.ia 5 (.t 14) (.t 15)))⟩, ⟨none, none, (.e (.st 5 (.t 21) (.t 20)))⟩])) (.ops [⟨(some 12), none, (.f (.mv (.t 4)))⟩, ⟨(some 13), none, (.f (.bin .add (.t 12) (.k (.int .i64 1))))⟩, ⟨(some 4), none, (.f (.mv (.t 13)))⟩])))))) (.seq (.ops [⟨(some 22), none, (.f (.mv (.t 3)))⟩, ⟨(some 2), none, (.f (.mv (.t 22)))⟩]) .ret))))
theorem k_laws_toGameS : compFn Tryz.prog [] F.laws_toGameS = some (c_laws_toGameS, [(.t 2)], 23) := by kernel_rfl

def c_laws_toIntS : CC := (.seq (.ops [⟨(some 2), none, (.f (.mv .nil))⟩]) (.seq (.ops [⟨(some 5), none, (.f (.mv (.t 0)))⟩, ⟨(some 6), none, (.f (.len (.t 5)))⟩, ⟨(some 7), none, (.e (.mk 1 8 [(.v (.int .i64 0))] (.t 6) (.t 6)))⟩, ⟨(some 3), none, (.f (.mv (.t 7)))⟩]) (.seq (.seq (.ops [⟨(some 4), none, (.f (.mv (.k (.int .i64 0))))⟩]) (.block 0 (.loop (.seq (.seq (.ops [⟨(some 8), none, (.f (.mv (.t 4)))⟩, ⟨(some 9), none, (.f (.mv (.t 0)))⟩, ⟨(some 10), none, (.f (.len (.t 9)))⟩, ⟨(some 11), none, (.f (.bin .lss (.t 8) (.t 10)))⟩]) (.cond (.t 11) .skip (.exit 0))) (.seq (.block 1 (.ops [⟨(some 14), none, (.f (.mv (.t 3)))⟩, ⟨(some 15), none, (.f (.mv (.t 4)))⟩, ⟨(some 16), none, (.f (.mv (.t 0)))⟩, ⟨(some 17), none, (.f (.mv (.t 4)))⟩, ⟨(some 18), none, (.f (.ia 1 (.t 16) (.t 17)))⟩, ⟨(some 19), none, (.f (.ld1 (.t 18)))⟩, ⟨(some 20), none, (.f (.ia 1 (.t 14) (.t 15)))⟩, ⟨none, none, (.e (.st 1 (.t 20) (.t 19)))⟩])) (.ops [⟨(some 12), none, (.f (.mv (.t 4)))⟩, ⟨(some 13), none, (.f (.bin .add (.t 12) (.k (.int .i64 1))))⟩, ⟨(some 4), none, (.f (.mv (.t 13)))⟩])))))) (.seq (.ops [⟨(some 21), none, (.f (.mv (.t 3)))⟩, ⟨(some 2), none, (.f (.mv (.t 21)))⟩]) .ret))))
theorem k_laws_toIntS : compFn Tryz.prog [] F.laws_toIntS = some (c_laws_toIntS, [(.t 2)], 22) := by kernel_rfl

def c_laws_eqTeamS : CC := (.seq (.ops [⟨(some 4), none, (.f (.mv (.k (.bool false))))⟩]) (.seq (.seq (.ops [⟨(some 6), none, (.f (.mv (.t 0)))⟩, ⟨(some 7), none, (.f (.len (.t 6)))⟩, ⟨(some 8), none, (.f (.mv (.t 1)))⟩, ⟨(some 9), none, (.f (.len (.t 8)))⟩, ⟨(some 10), none, (.f (.bin .neq (.t 7) (.t 9)))⟩]) (.cond (.t 10) (.seq (.ops [⟨(some 4), none, (.f (.mv (.k (.bool false))))⟩]) .ret) .skip)) (.seq (.seq (.ops [⟨(some 5), none, (.f (.mv (.k (.int .i64 0))))⟩]) (.block 0 (.loop (.seq (.seq (.ops [⟨(some 11), none, (.f (.mv (.t 5)))⟩, ⟨(some 12), none, (.f (.mv (.t 0)))⟩, ⟨(some 13), none, (.f (.len (.t 12)))⟩, ⟨(some 14), none, (.f (.bin .lss (.t 11) (.t 13)))⟩]) (.cond (.t 14) .skip (.exit 0))) (.seq (.block 1 (.seq (.ops [⟨(some 17), none, (.f (.mv (.t 0)))⟩, ⟨(some 18), none, (.f (.mv (.t 5)))⟩, ⟨(some 19), none, (.f (.ia 3 (.t 17) (.t 18)))⟩, ⟨(some 20), none, (.f (.ld 3 (.t 19)))⟩, ⟨(some 21), none, (.f (.mv (.t 1)))⟩, ⟨(some 22), none, (.f (.mv (.t 5)))⟩, ⟨(some 23), none, (.f (.ia 3 (.t 21) (.t 22)))⟩, ⟨(some 24), none, (.f (.ld 3 (.t 23)))⟩, ⟨(some 25), none, (.e (.call false F.laws_eqTeam [(.t 20), (.t 24)]))⟩, ⟨(some 26), none, (.f (.not (.t 25)))⟩]) (.cond (.t 26) (.seq (.ops [⟨(some 4), none, (.f (.mv (.k (.bool false))))⟩]) .ret) .skip))) (.ops [⟨(some 15), none, (.f (.mv (.t 5)))⟩, ⟨(some 16), none, (.f (.bin .add (.t 15) (.k (.int .i64 1))))⟩, ⟨(some 5), none, (.f (.mv (.t 16)))⟩])))))) (.seq (.ops [⟨(some 4), none, (.f (.mv (.k (.bool true))))⟩]) .ret))))
theorem k_laws_eqTeamS : compFn Tryz.prog [] F.laws_eqTeamS = some (c_laws_eqTeamS, [(.t 4)], 27) := by kernel_rfl

def c_laws_eqRules : CC := (.seq (.ops [⟨(some 2), none, (.e (.box (.t 0)))⟩, ⟨(some 3), none, (.e (.box (.t 1)))⟩, ⟨(some 4), none, (.f (.mv (.k (.bool false))))⟩]) (.seq (.seq (.ops [⟨(some 5), none, (.f (.fa 0 (.t 2)))⟩, ⟨(some 6), none, (.f (.ld1 (.t 5)))⟩, ⟨(some 7), none, (.f (.fa 0 (.t 3)))⟩, ⟨(some 8), none, (.f (.ld1 (.t 7)))⟩, ⟨(some 9), none, (.f (.bin .neq (.t 6) (.t 8)))⟩]) (.cond (.t 9) (.seq (.ops [⟨(some 4), none, (.f (.mv (.k (.bool false))))⟩]) .ret) .skip)) (.seq (.seq (.ops [⟨(some 10), none, (.f (.fa 1 (.t 2)))⟩, ⟨(some 11), none, (.f (.ld1 (.t 10)))⟩, ⟨(some 12), none, (.f (.fa 1 (.t 3)))⟩, ⟨(some 13), none, (.f (.ld1 (.t 12)))⟩, ⟨(some 14), none, (.f (.bin .neq (.t 11) (.t 13)))⟩]) (.cond (.t 14) (.seq (.ops [⟨(some 4), none, (.f (.mv (.k (.bool false))))⟩]) .ret) .skip)) (.seq (.seq (.ops [⟨(some 15), none, (.f (.fa 2 (.t 2)))⟩, ⟨(some 16), none, (.f (.ld1 (.t 15)))⟩, ⟨(some 17), none, (.f (.fa 2 (.t 3)))⟩, ⟨(some 18), none, (.f (.ld1 (.t 17)))⟩, ⟨(some 19), none, (.f (.bin .neq (.t 16) (.t 18)))⟩]) (.cond (.t 19) (.seq (.ops [⟨(some 4), none, (.f (.mv (.k (.bool false))))⟩]) .ret) .skip)) (.seq (.seq (.ops [⟨(some 20), none, (.f (.fa 3 (.t 2)))⟩, ⟨(some 21), none, (.f (.ld1 (.t 20)))⟩, ⟨(some 22), none, (.f (.fa 3 (.t 3)))⟩, ⟨(some 23), none, (.f (.ld1 (.t 22)))⟩, ⟨(some 24), none, (.e (.call false F.laws_eqIntS [(.t 21), (.t 23)]))⟩, ⟨(some 25), none, (.f (.not (.t 24)))⟩]) (.cond (.t 25) (.seq (.ops [⟨(some 4), none, (.f (.mv (.k (.bool false))))⟩]) .ret) .skip)) (.seq (.seq (.ops [⟨(some 26), none, (.f (.fa 4 (.t 2)))⟩, ⟨(some 27), none, (.f (.ld1 (.t 26)))⟩, ⟨(some 28), none, (.f (.fa 4 (.t 3)))⟩, ⟨(some 29), none, (.f (.ld1 (.t 28)))⟩, ⟨(some 30), none, (.f (.beq true (.t 27) (.t 29)))⟩]) (.cond (.t 30) (.seq (.ops [⟨(some 4), none, (.f (.mv (.k (.bool false))))⟩]) .ret) .skip)) (.seq (.ops [⟨(some 4), none, (.f (.mv (.k (.bool true))))⟩]) .ret)))))))
theorem k_laws_eqRules : compFn Tryz.prog [] F.laws_eqRules = some (c_laws_eqRules, [(.t 4)], 31) := by kernel_rfl

def c_laws_eqGameS : CC := (.seq (.ops [⟨(some 4), none, (.f (.mv (.k (.bool false))))⟩]) (.seq (.seq (.ops [⟨(some 6), none, (.f (.mv (.t 0)))⟩, ⟨(some 7), none, (.f (.len (.t 6)))⟩, ⟨(some 8), none, (.f (.mv (.t 1)))⟩, ⟨(some 9), none, (.f (.len (.t 8)))⟩, ⟨(some 10), none, (.f (.bin .neq (.t 7) (.t 9)))⟩]) (.cond (.t 10) (.seq (.ops [⟨(some 4), none, (.f (.mv (.k (.bool false))))⟩]) .ret) .skip)) (.seq (.seq (.ops [⟨(some 5), none, (.f (.mv (.k (.int .i64 0))))⟩]) (.block 0 (.loop (.seq (.seq (.ops [⟨(some 11), none, (.f (.mv (.t 5)))⟩, ⟨(some 12), none, (.f (.mv (.t 0)))⟩, ⟨(some 13), none, (.f (.len (.t 12)))⟩, ⟨(some 14), none, (.f (.bin .lss (.t 11) (.t 13)))⟩]) (.cond (.t 14) .skip (.exit 0))) (.seq (.block 1 (.seq (.ops [⟨(some 17), none, (.f (.mv (.t 0)))⟩, ⟨(some 18), none, (.f (.mv (.t 5)))⟩, ⟨(some 19), none, (.f (.ia 5 (.t 17) (.t 18)))⟩, ⟨(some 20), none, (.f (.ld 5 (.t 19)))⟩, ⟨(some 21), none, (.f (.mv (.t 1)))⟩, ⟨(some 22), none, (.f (.mv (.t 5)))⟩, ⟨(some 23), none, (.f (.ia 5 (.t 21) (.t 22)))⟩, ⟨(some 24), none, (.f (.ld 5 (.t 23)))⟩, ⟨(some 25), none, (.e (.call false F.laws_eqGame [(.t 20), (.t 24)]))⟩, ⟨(some 26), none, (.f (.not (.t 25)))⟩]) (.cond (.t 26) (.seq (.ops [⟨(some 4), none, (.f (.mv (.k (.bool false))))⟩]) .ret) .skip))) (.ops [⟨(some 15), none, (.f (.mv (.t 5)))⟩, ⟨(some 16), none, (.f (.bin .add (.t 15) (.k (.int .i64 1))))⟩, ⟨(some 5), none, (.f (.mv (.t 16)))⟩])))))) (.seq (.ops [⟨(some 4), none, (.f (.mv (.k (.bool true))))⟩]) .ret))))
theorem k_laws_eqGameS : compFn Tryz.prog [] F.laws_eqGameS = some (c_laws_eqGameS, [(.t 4)], 27) := by kernel_rfl

def c_spec_l01In : CC := (.seq (.ops [⟨(some 6), none, (.f (.mv (.k (.bool false))))⟩]) (.seq (.ops [⟨(some 7), none, (.f (.mv (.t 0)))⟩, ⟨(some 8), none, (.f (.mv (.t 1)))⟩, ⟨(some 9), none, (.f (.bin .geq (.t 7) (.t 8)))⟩, ⟨(some 10), none, (.f (.mv (.t 9)))⟩, ⟨(some 11), (some (10, true)), (.f (.mv (.t 0)))⟩, ⟨(some 12), (some (10, true)), (.f (.mv (.t 2)))⟩, ⟨(some 13), (some (10, true)), (.f (.bin .leq (.t 11) (.t 12)))⟩, ⟨(some 14), none, (.f (.pick (.t 10) (.t 13) (.k (.bool false))))⟩, ⟨(some 6), none, (.f (.mv (.t 14)))⟩]) .ret))
theorem k_spec_l01In : compFn Tryz.prog [] F.spec_l01In = some (c_spec_l01In, [(.t 6)], 15) := by kernel_rfl

def c_impl_within : CC := (.seq (.ops [⟨(some 6), none, (.f (.mv (.k (.bool false))))⟩]) (.seq (.ops [⟨(some 7), none, (.f (.mv (.t 1)))⟩, ⟨(some 8), none, (.f (.mv (.t 0)))⟩, ⟨(some 9), none, (.f (.bin .leq (.t 7) (.t 8)))⟩, ⟨(some 10), none, (.f (.mv (.t 9)))⟩, ⟨(some 11), (some (10, true)), (.f (.mv (.t 0)))⟩, ⟨(some 12), (some (10, true)), (.f (.mv (.t 2)))⟩, ⟨(some 13), (some (10, true)), (.f (.bin .leq (.t 11) (.t 12)))⟩, ⟨(some 14), none, (.f (.pick (.t 10) (.t 13) (.k (.bool false))))⟩, ⟨(some 6), none, (.f (.mv (.t 14)))⟩]) .ret))
theorem k_impl_within : compFn Tryz.prog [] F.impl_within = some (c_impl_within, [(.t 6)], 15) := by kernel_rfl

def c_laws_markTeamS : CC := (.seq (.ops [⟨(some 4), none, (.f (.mv (.k (.int .i64 0))))⟩]) (.seq (.seq (.ops [⟨(some 5), none, (.f (.mv (.k (.int .i64 0))))⟩]) (.block 0 (.loop (.seq (.seq (.ops [⟨(some 6), none, (.f (.mv (.t 5)))⟩, ⟨(some 7), none, (.f (.mv (.t 0)))⟩, ⟨(some 8), none, (.f (.len (.t 7)))⟩, ⟨(some 9), none, (.f (.bin .lss (.t 6) (.t 8)))⟩]) (.cond (.t 9) .skip (.exit 0))) (.seq (.block 1 (.seq (.ops [⟨(some 12), none, (.f (.mv (.t 0)))⟩, ⟨(some 13), none, (.f (.mv (.t 5)))⟩, ⟨(some 14), none, (.f (.mv (.t 1)))⟩, ⟨(some 15), none, (.e (.call false F.laws_markText [(.t 14)]))⟩, ⟨(some 16), none, (.f (.ia 3 (.t 12) (.t 13)))⟩, ⟨(some 17), none, (.f (.fa 0 (.t 16)))⟩, ⟨none, none, (.e (.st 1 (.t 17) (.t 15)))⟩]) (.seq (.ops [⟨(some 18), none, (.f (.mv (.t 1)))⟩, ⟨(some 19), none, (.f (.bin .add (.t 18) (.k (.int .i64 1))))⟩, ⟨(some 1), none, (.f (.mv (.t 19)))⟩]) (.seq (.ops [⟨(some 20), none, (.f (.mv (.t 0)))⟩, ⟨(some 21), none, (.f (.mv (.t 5)))⟩, ⟨(some 22), none, (.f (.mv (.t 1)))⟩, ⟨(some 23), none, (.f (.ia 3 (.t 20) (.t 21)))⟩, ⟨(some 24), none, (.f (.fa 1 (.t 23)))⟩, ⟨none, none, (.e (.st 1 (.t 24) (.t 22)))⟩]) (.seq (.ops [⟨(some 25), none, (.f (.mv (.t 1)))⟩, ⟨(some 26), none, (.f (.bin .add (.t 25) (.k (.int .i64 1))))⟩, ⟨(some 1), none, (.f (.mv (.t 26)))⟩]) (.seq (.ops [⟨(some 27), none, (.f (.mv (.t 0)))⟩, ⟨(some 28), none, (.f (.mv (.t 5)))⟩, ⟨(some 29), none, (.f (.mv (.t 1)))⟩, ⟨(some 30), none, (.f (.ia 3 (.t 27) (.t 28)))⟩, ⟨(some 31), none, (.f (.fa 2 (.t 30)))⟩, ⟨none, none, (.e (.st 1 (.t 31) (.t 29)))⟩]) (.ops [⟨(some 32), none, (.f (.mv (.t 1)))⟩, ⟨(some 33), none, (.f (.bin .add (.t 32) (.k (.int .i64 1))))⟩, ⟨(some 1), none, (.f (.mv (.t 33)))⟩]))))))) (.ops [⟨(some 10), none, (.f (.mv (.t 5)))⟩, ⟨(some 11), none, (.f (.bin .add (.t 10) (.k (.int .i64 1))))⟩, ⟨(some 5), none, (.f (.mv (.t 11)))⟩])))))) (.seq (.ops [⟨(some 34), none, (.f (.mv (.t 1)))⟩, ⟨(some 4), none, (.f (.mv (.t 34)))⟩]) .ret)))
theorem k_laws_markTeamS : compFn Tryz.prog [] F.laws_markTeamS = some (c_laws_markTeamS, [(.t 4)], 35) := by kernel_rfl

def c_laws_markRules : CC := (.seq (.ops [⟨(some 2), none, (.e (.box (.t 0)))⟩, ⟨(some 4), none, (.f (.mv (.k (.int .i64 0))))⟩]) (.seq (.ops [⟨(some 5), none, (.f (.fa 3 (.t 2)))⟩, ⟨(some 6), none, (.f (.ld1 (.t 5)))⟩, ⟨(some 7), none, (.f (.mv (.t 1)))⟩, ⟨(some 8), none, (.e (.call false F.laws_markIntS [(.t 6), (.t 7)]))⟩, ⟨(some 1), none, (.f (.mv (.t 8)))⟩]) (.seq (.ops [⟨(some 9), none, (.f (.mv (.t 1)))⟩, ⟨(some 4), none, (.f (.mv (.t 9)))⟩]) .ret)))
theorem k_laws_markRules : compFn Tryz.prog [] F.laws_markRules = some (c_laws_markRules, [(.t 4)], 10) := by kernel_rfl

def c_laws_markGameS : CC := (.seq (.ops [⟨(some 4), none, (.f (.mv (.k (.int .i64 0))))⟩]) (.seq (.seq (.ops [⟨(some 5), none, (.f (.mv (.k (.int .i64 0))))⟩]) (.block 0 (.loop (.seq (.seq (.ops [⟨(some 6), none, (.f (.mv (.t 5)))⟩, ⟨(some 7), none, (.f (.mv (.t 0)))⟩, ⟨(some 8), none, (.f (.len (.t 7)))⟩, ⟨(some 9), none, (.f (.bin .lss (.t 6) (.t 8)))⟩]) (.cond (.t 9) .skip (.exit 0))) (.seq (.block 1 (.seq (.ops [⟨(some 12), none, (.f (.mv (.t 0)))⟩, ⟨(some 13), none, (.f (.mv (.t 5)))⟩, ⟨(some 14), none, (.f (.mv (.t 1)))⟩, ⟨(some 15), none, (.f (.ia 5 (.t 12) (.t 13)))⟩, ⟨(some 16), none, (.f (.fa 0 (.t 15)))⟩, ⟨none, none, (.e (.st 1 (.t 16) (.t 14)))⟩]) (.seq (.ops [⟨(some 17), none, (.f (.mv (.t 1)))⟩, ⟨(some 18), none, (.f (.bin .add (.t 17) (.k (.int .i64 1))))⟩, ⟨(some 1), none, (.f (.mv (.t 18)))⟩]) (.seq (.ops [⟨(some 19), none, (.f (.mv (.t 0)))⟩, ⟨(some 20), none, (.f (.mv (.t 5)))⟩, ⟨(some 21), none, (.f (.mv (.t 1)))⟩, ⟨(some 22), none, (.f (.ia 5 (.t 19) (.t 20)))⟩, ⟨(some 23), none, (.f (.fa 1 (.t 22)))⟩, ⟨none, none, (.e (.st 1 (.t 23) (.t 21)))⟩]) (.seq (.ops [⟨(some 24), none, (.f (.mv (.t 1)))⟩, ⟨(some 25), none, (.f (.bin .add (.t 24) (.k (.int .i64 1))))⟩, ⟨(some 1), none, (.f (.mv (.t 25)))⟩]) (.seq (.ops [⟨(some 26), none, (.f (.mv (.t 0)))⟩, ⟨(some 27), none, (.f (.mv (.t 5)))⟩, ⟨(some 28), none, (.f (.mv (.t 1)))⟩, ⟨(some 29), none, (.f (.ia 5 (.t 26) (.t 27)))⟩, ⟨(some 30), none, (.f (.fa 2 (.t 29)))⟩, ⟨none, none, (.e (.st 1 (.t 30) (.t 28)))⟩]) (.seq (.ops [⟨(some 31), none, (.f (.mv (.t 1)))⟩, ⟨(some 32), none, (.f (.bin .add (.t 31) (.k (.int .i64 1))))⟩, ⟨(some 1), none, (.f (.mv (.t 32)))⟩]) (.seq (.ops [⟨(some 33), none, (.f (.mv (.t 0)))⟩, ⟨(some 34), none, (.f (.mv (.t 5)))⟩, ⟨(some 35), none, (.f (.mv (.t 1)))⟩, ⟨(some 36), none, (.f (.ia 5 (.t 33) (.t 34)))⟩, ⟨(some 37), none, (.f (.fa 3 (.t 36)))⟩, ⟨none, none, (.e (.st 1 (.t 37) (.t 35)))⟩]) (.seq (.ops [⟨(some 38), none, (.f (.mv (.t 1)))⟩, ⟨(some 39), none, (.f (.bin .add (.t 38) (.k (.int .i64 1))))⟩, ⟨(some 1), none, (.f (.mv (.t 39)))⟩]) (.seq (.ops [⟨(some 40), none, (.f (.mv (.t 0)))⟩, ⟨(some 41), none, (.f (.mv (.t 5)))⟩, ⟨(some 42), none, (.f (.mv (.t 1)))⟩, ⟨(some 43), none, (.f (.ia 5 (.t 40) (.t 41)))⟩, ⟨(some 44), none, (.f (.fa 4 (.t 43)))⟩, ⟨none, none, (.e (.st 1 (.t 44) (.t 42)))⟩]) (.ops [⟨(some 45), none, (.f (.mv (.t 1)))⟩, ⟨(some 46), none, (.f (.bin .add (.t 45) (.k (.int .i64 1))))⟩, ⟨(some 1), none, (.f (.mv (.t 46)))⟩]))))))))))) (.ops [⟨(some 10), none, (.f (.mv (.t 5)))⟩, ⟨(some 11), none, (.f (.bin .add (.t 10) (.k (.int .i64 1))))⟩, ⟨(some 5), none, (.f (.mv (.t 11)))⟩])))))) (.seq (.ops [⟨(some 47), none, (.f (.mv (.t 1)))⟩, ⟨(some 4), none, (.f (.mv (.t 47)))⟩]) .ret)))
theorem k_laws_markGameS : compFn Tryz.prog [] F.laws_markGameS = some (c_laws_markGameS, [(.t 4)], 48) := by kernel_rfl

def c_spec_l16Ranks : CC := (.seq (.ops [⟨(some 2), none, (.e (.box (.t 0)))⟩, ⟨(some 4), none, (.f (.mv .nil))⟩]) (.seq (.ops [⟨(some 10), none, (.f (.ld 9 (.t 2)))⟩, ⟨(some 11), none, (.e (.call false F.spec_l16Open [(.t 10)]))⟩, ⟨(some 9), none, (.f (.mv (.t 11)))⟩, ⟨(some 12), none, (.f (.ext (.t 9) 0))⟩, ⟨(some 13), none, (.f (.ext (.t 9) 1))⟩, ⟨(some 5), none, (.f (.mv (.t 12)))⟩, ⟨(some 6), none, (.f (.mv (.t 13)))⟩]) (.seq (.seq (.ops [⟨(some 14), none, (.f (.mv (.t 6)))⟩, ⟨(some 15), none, (.f (.not (.t 14)))⟩, ⟨(some 16), none, (.f (.mv (.t 15)))⟩, ⟨(some 17), (some (16, false)), (.f (.mv (.t 1)))⟩, ⟨(some 18), (some (16, false)), (.f (.fa 0 (.t 2)))⟩, ⟨(some 19), (some (16, false)), (.f (.ld1 (.t 18)))⟩, ⟨(some 20), (some (16, false)), (.f (.len (.t 19)))⟩, ⟨(some 21), (some (16, false)), (.f (.bin .sub (.t 20) (.k (.int .i64 1))))⟩, ⟨(some 22), (some (16, false)), (.e (.call false F.spec_l01In [(.t 17), (.k (.int .i64 0)), (.t 21)]))⟩, ⟨(some 23), (some (16, false)), (.f (.not (.t 22)))⟩, ⟨(some 24), none, (.f (.pick (.t 16) (.k (.bool true)) (.t 23)))⟩]) (.cond (.t 24) (.seq (.ops [⟨(some 4), none, (.f (.mv .nil))⟩]) .ret) .skip)) (.seq (.ops [⟨(some 25), none, (.e (.mks 1 0 [(.v (.int .i64 0))] []))⟩, ⟨(some 7), none, (.f (.mv (.t 25)))⟩]) (.seq (.seq (.ops [⟨(some 8), none, (.f (.mv (.k (.int .i64 0))))⟩]) (.block 0 (.loop (.seq (.seq (.ops [⟨(some 26), none, (.f (.mv (.t 8)))⟩, ⟨(some 27), none, (.f (.ld 9 (.t 2)))⟩, ⟨(some 28), none, (.e (.call false F.spec_CountOutcomes [(.t 27)]))⟩, ⟨(some 29), none, (.f (.bin .lss (.t 26) (.t 28)))⟩]) (.cond (.t 29) .skip (.exit 0))) (.seq (.block 1 (.ops [⟨(some 32), none, (.f (.mv (.t 7)))⟩, ⟨(some 33), none, (.f (.ld 9 (.t 2)))⟩, ⟨(some 34), none, (.f (.mv (.t 5)))⟩, ⟨(some 35), none, (.f (.mv (.t 5)))⟩, ⟨(some 36), none, (.f (.len (.t 35)))⟩, ⟨(some 37), none, (.f (.mv (.t 8)))⟩, ⟨(some 40), none, (.f (.mv (.t 1)))⟩, ⟨(some 38), none, (.e (.call true F.spec_l16At [(.t 36), (.t 37)]))⟩, ⟨(some 39), none, (.e (.call false F.spec_l16With [(.t 33), (.t 34), (.t 38)]))⟩, ⟨(some 41), none, (.e (.call false F.spec_RankOf [(.t 39), (.t 40)]))⟩, ⟨(some 42), none, (.e (.mks 1 1 [(.v (.int .i64 0))] [(0, (1, (.t 41)))]))⟩, ⟨(some 43), none, (.e (.app 1 8 (.t 32) (.t 42)))⟩, ⟨(some 7), none, (.f (.mv (.t 43)))⟩])) (.ops [⟨(some 30), none, (.f (.mv (.t 8)))⟩, ⟨(some 31), none, (.f (.bin .add (.t 30) (.k (.int .i64 1))))⟩, ⟨(some 8), none, (.f (.mv (.t 31)))⟩])))))) (.seq (.ops [⟨(some 44), none, (.f (.mv (.t 7)))⟩, ⟨(some 4), none, (.f (.mv (.t 44)))⟩]) .ret))))))
theorem k_spec_l16Ranks : compFn Tryz.prog [] F.spec_l16Ranks = some (c_spec_l16Ranks, [(.t 4)], 45) := by kernel_rfl

def c_spec_l02Has : CC := (.seq (.ops [⟨(some 4), none, (.f (.mv (.k (.bool false))))⟩]) (.seq (.seq (.ops [⟨(some 7), none, (.f (.mv (.t 0)))⟩, ⟨(some 8), none, (.f (.len (.t 7)))⟩, ⟨(some 9), none, (.f (.mv (.k (.int .i64 0))))⟩]) (.block 0 (.loop (.seq (.ops [⟨(some 10), none, (.f (.bin .lss (.t 9) (.t 8)))⟩]) (.seq (.cond (.t 10) .skip (.exit 0)) (.seq (.block 1 (.seq (.ops [⟨(some 11), none, (.f (.ia 1 (.t 7) (.t 9)))⟩, ⟨(some 12), none, (.f (.ld1 (.t 11)))⟩, ⟨(some 6), none, (.f (.mv (.t 12)))⟩]) (.seq (.ops [⟨(some 13), none, (.f (.mv (.t 6)))⟩, ⟨(some 14), none, (.f (.mv (.t 1)))⟩, ⟨(some 15), none, (.f (.bin .eql (.t 13) (.t 14)))⟩]) (.cond (.t 15) (.seq (.ops [⟨(some 4), none, (.f (.mv (.k (.bool true))))⟩]) .ret) .skip)))) (.ops [⟨(some 16), none, (.f (.bin .add (.t 9) (.k (.int .i64 1))))⟩, ⟨(some 9), none, (.f (.mv (.t 16)))⟩]))))))) (.seq (.ops [⟨(some 4), none, (.f (.mv (.k (.bool false))))⟩]) .ret)))
theorem k_spec_l02Has : compFn Tryz.prog [] F.spec_l02Has = some (c_spec_l02Has, [(.t 4)], 17) := by kernel_rfl

def c_impl_endings : CC := (.seq (.ops [⟨(some 2), none, (.e (.box (.t 0)))⟩, ⟨(some 4), none, (.f (.mv .nil))⟩]) (.seq (.seq (.ops [⟨(some 8), none, (.f (.ld 9 (.t 2)))⟩, ⟨(some 9), none, (.e (.call false F.impl_isShort [(.t 8)]))⟩, ⟨(some 10), none, (.f (.not (.t 9)))⟩, ⟨(some 11), none, (.f (.mv (.t 10)))⟩, ⟨(some 12), (some (11, false)), (.f (.ld 9 (.t 2)))⟩, ⟨(some 13), (some (11, false)), (.f (.mv (.t 1)))⟩, ⟨(some 14), (some (11, false)), (.e (.call false F.impl_isTeam [(.t 12), (.t 13)]))⟩, ⟨(some 15), (some (11, false)), (.f (.not (.t 14)))⟩, ⟨(some 16), none, (.f (.pick (.t 11) (.k (.bool true)) (.t 15)))⟩]) (.cond (.t 16) (.seq (.ops [⟨(some 4), none, (.f (.mv .nil))⟩]) .ret) .skip)) (.seq (.ops [⟨(some 17), none, (.e (.mks 2 0 [.nil, .nil] []))⟩, ⟨(some 5), none, (.f (.mv (.t 17)))⟩]) (.seq (.seq (.ops [⟨(some 18), none, (.f (.ld 9 (.t 2)))⟩, ⟨(some 19), none, (.e (.call false F.impl_CountOutcomes [(.t 18)]))⟩, ⟨(some 20), none, (.f (.mv (.k (.int .i64 0))))⟩]) (.block 0 (.loop (.seq (.ops [⟨(some 21), none, (.f (.bin .lss (.t 20) (.t 19)))⟩]) (.seq (.cond (.t 21) .skip (.exit 0)) (.seq (.block 1 (.seq (.ops [⟨(some 22), none, (.f (.mv (.t 20)))⟩, ⟨(some 6), none, (.f (.mv (.t 22)))⟩]) (.seq (.ops [⟨(some 23), none, (.f (.fa 6 (.t 2)))⟩, ⟨(some 24), none, (.f (.ld1 (.t 23)))⟩, ⟨(some 25), none, (.e (.call false F.impl_OpenGames [(.t 24)]))⟩, ⟨(some 26), none, (.f (.len (.t 25)))⟩, ⟨(some 27), none, (.f (.mv (.t 6)))⟩, ⟨(some 28), none, (.e (.call false F.impl_outcomeAt [(.t 26), (.t 27)]))⟩, ⟨(some 7), none, (.f (.mv (.t 28)))⟩]) (.ops [⟨(some 29), none, (.f (.mv (.t 5)))⟩, ⟨(some 30), none, (.f (.mv (.t 7)))⟩, ⟨(some 31), none, (.f (.ld 9 (.t 2)))⟩, ⟨(some 32), none, (.f (.mv (.t 7)))⟩, ⟨(some 33), none, (.e (.call false F.impl_played [(.t 31), (.t 32)]))⟩, ⟨(some 34), none, (.e (.call false F.impl_ranks [(.t 33)]))⟩, ⟨(some 35), none, (.f (.build [.nil, .nil] [(0, (1, (.t 30))), (1, (1, (.t 34)))]))⟩, ⟨(some 36), none, (.e (.mks 2 1 [.nil, .nil] [(0, (2, (.t 35)))]))⟩, ⟨(some 37), none, (.e (.app 2 48 (.t 29) (.t 36)))⟩, ⟨(some 5), none, (.f (.mv (.t 37)))⟩])))) (.ops [⟨(some 38), none, (.f (.bin .add (.t 20) (.k (.int .i64 1))))⟩, ⟨(some 20), none, (.f (.mv (.t 38)))⟩]))))))) (.seq (.ops [⟨(some 39), none, (.f (.mv (.t 5)))⟩, ⟨(some 4), none, (.f (.mv (.t 39)))⟩]) .ret)))))
theorem k_impl_endings : compFn Tryz.prog [] F.impl_endings = some (c_impl_endings, [(.t 4)], 40) := by kernel_rfl

def c_slices_Compact_int : CC := (.seq (.ops [⟨(some 2), none, (.f (.mv .nil))⟩]) (.seq (.seq (.ops [⟨(some 6), none, (.f (.mv (.t 0)))⟩, ⟨(some 7), none, (.f (.len (.t 6)))⟩, ⟨(some 8), none, (.f (.bin .lss (.t 7) (.k (.int .i64 2))))⟩]) (.cond (.t 8) (.seq (.ops [⟨(some 9), none, (.f (.mv (.t 0)))⟩, ⟨(some 2), none, (.f (.mv (.t 9)))⟩]) .ret) .skip)) (.seq (.seq (.ops [⟨(some 3), none, (.f (.mv (.k (.int .i64 1))))⟩]) (.block 0 (.loop (.seq (.seq (.ops [⟨(some 10), none, (.f (.mv (.t 3)))⟩, ⟨(some 11), none, (.f (.mv (.t 0)))⟩, ⟨(some 12), none, (.f (.len (.t 11)))⟩, ⟨(some 13), none, (.f (.bin .lss (.t 10) (.t 12)))⟩]) (.cond (.t 13) .skip (.exit 0))) (.seq (.block 1 (.seq (.ops [⟨(some 16), none, (.f (.mv (.t 0)))⟩, ⟨(some 17), none, (.f (.mv (.t 3)))⟩, ⟨(some 18), none, (.f (.ia 1 (.t 16) (.t 17)))⟩, ⟨(some 19), none, (.f (.ld1 (.t 18)))⟩, ⟨(some 20), none, (.f (.mv (.t 0)))⟩, ⟨(some 21), none, (.f (.mv (.t 3)))⟩, ⟨(some 22), none, (.f (.bin .sub (.t 21) (.k (.int .i64 1))))⟩, ⟨(some 23), none, (.f (.ia 1 (.t 20) (.t 22)))⟩, ⟨(some 24), none, (.f (.ld1 (.t 23)))⟩, ⟨(some 25), none, (.f (.bin .eql (.t 19) (.t 24)))⟩]) (.cond (.t 25) (.seq (.ops [⟨(some 26), none, (.f (.mv (.t 0)))⟩, ⟨(some 27), none, (.f (.mv (.t 3)))⟩, ⟨(some 28), none, (.f (.sls 1 (.t 26) (some (.t 27)) none))⟩, ⟨(some 4), none, (.f (.mv (.t 28)))⟩]) (.seq (.seq (.ops [⟨(some 5), none, (.f (.mv (.k (.int .i64 1))))⟩]) (.block 2 (.loop (.seq (.seq (.ops [⟨(some 29), none, (.f (.mv (.t 5)))⟩, ⟨(some 30), none, (.f (.mv (.t 4)))⟩, ⟨(some 31), none, (.f (.len (.t 30)))⟩, ⟨(some 32), none, (.f (.bin .lss (.t 29) (.t 31)))⟩]) (.cond (.t 32) .skip (.exit 2))) (.seq (.block 3 (.seq (.ops [⟨(some 35), none, (.f (.mv (.t 4)))⟩, ⟨(some 36), none, (.f (.mv (.t 5)))⟩, ⟨(some 37), none, (.f (.ia 1 (.t 35) (.t 36)))⟩, ⟨(some 38), none, (.f (.ld1 (.t 37)))⟩, ⟨(some 39), none, (.f (.mv (.t 4)))⟩, ⟨(some 40), none, (.f (.mv (.t 5)))⟩, ⟨(some 41), none, (.f (.bin .sub (.t 40) (.k (.int .i64 1))))⟩, ⟨(some 42), none, (.f (.ia 1 (.t 39) (.t 41)))⟩, ⟨(some 43), none, (.f (.ld1 (.t 42)))⟩, ⟨(some 44), none, (.f (.bin .neq (.t 38) (.t 43)))⟩]) (.cond (.t 44) (.seq (.ops [⟨(some 45), none, (.f (.mv (.t 0)))⟩, ⟨(some 46), none, (.f (.mv (.t 3)))⟩, ⟨(some 47), none, (.f (.mv (.t 4)))⟩, ⟨(some 48), none, (.f (.mv (.t 5)))⟩, ⟨(some 49), none, (.f (.ia 1 (.t 47) (.t 48)))⟩, ⟨(some 50), none, (.f (.ld1 (.t 49)))⟩, ⟨(some 51), none, (.f (.ia 1 (.t 45) (.t 46)))⟩, ⟨none, none, (.e (.st 1 (.t 51) (.t 50)))⟩]) (.ops [⟨(some 52), none, (.f (.mv (.t 3)))⟩, ⟨(some 53), none, (.f (.bin .add (.t 52) (.k (.int .i64 1))))⟩, ⟨(some 3), none, (.f (.mv (.t 53)))⟩])) .skip))) (.ops [⟨(some 33), none, (.f (.mv (.t 5)))⟩, ⟨(some 34), none, (.f (.bin .add (.t 33) (.k (.int .i64 1))))⟩, ⟨(some 5), none, (.f (.mv (.t 34)))⟩])))))) (.seq (.ops [⟨(some 54), none, (.f (.mv (.t 0)))⟩, ⟨(some 55), none, (.f (.mv (.t 3)))⟩, ⟨(some 56), none, (.f (.sls 1 (.t 54) (some (.t 55)) none))⟩, ⟨none, none, (.e (.clr 1 [(.v (.int .i64 0))] (.t 56)))⟩]) (.seq (.ops [⟨(some 57), none, (.f (.mv (.t 0)))⟩, ⟨(some 58), none, (.f (.mv (.t 3)))⟩, ⟨(some 59), none, (.f (.sls 1 (.t 57) none (some (.t 58))))⟩, ⟨(some 2), none, (.f (.mv (.t 59)))⟩]) .ret)))) .skip))) (.ops [⟨(some 14), none, (.f (.mv (.t 3)))⟩, ⟨(some 15), none, (.f (.bin .add (.t 14) (.k (.int .i64 1))))⟩, ⟨(some 3), none, (.f (.mv (.t 15)))⟩])))))) (.seq (.ops [⟨(some 60), none, (.f (.mv (.t 0)))⟩, ⟨(some 2), none, (.f (.mv (.t 60)))⟩]) .ret))))
theorem k_slices_Compact_int : compFn Tryz.prog [] F.slices_Compact_int = some (c_slices_Compact_int, [(.t 2)], 61) := by kernel_rfl

def c_impl_upTo : CC := (.seq (.ops [⟨(some 2), none, (.f (.mv .nil))⟩]) (.seq (.ops [⟨(some 5), none, (.e (.mks 1 0 [(.v (.int .i64 0))] []))⟩, ⟨(some 3), none, (.f (.mv (.t 5)))⟩]) (.seq (.seq (.ops [⟨(some 6), none, (.f (.mv (.t 0)))⟩, ⟨(some 7), none, (.f (.mx true (.t 6) (.k (.int .i64 0))))⟩, ⟨(some 8), none, (.f (.mv (.k (.int .i64 0))))⟩]) (.block 0 (.loop (.seq (.ops [⟨(some 9), none, (.f (.bin .lss (.t 8) (.t 7)))⟩]) (.seq (.cond (.t 9) .skip (.exit 0)) (.seq (.block 1 (.seq (.ops [⟨(some 10), none, (.f (.mv (.t 8)))⟩, ⟨(some 4), none, (.f (.mv (.t 10)))⟩]) (.ops [⟨(some 11), none, (.f (.mv (.t 3)))⟩, ⟨(some 12), none, (.f (.mv (.t 4)))⟩, ⟨(some 13), none, (.e (.mks 1 1 [(.v (.int .i64 0))] [(0, (1, (.t 12)))]))⟩, ⟨(some 14), none, (.e (.app 1 8 (.t 11) (.t 13)))⟩, ⟨(some 3), none, (.f (.mv (.t 14)))⟩]))) (.ops [⟨(some 15), none, (.f (.bin .add (.t 8) (.k (.int .i64 1))))⟩, ⟨(some 8), none, (.f (.mv (.t 15)))⟩]))))))) (.seq (.ops [⟨(some 16), none, (.f (.mv (.t 3)))⟩, ⟨(some 2), none, (.f (.mv (.t 16)))⟩]) .ret))))
theorem k_impl_upTo : compFn Tryz.prog [] F.impl_upTo = some (c_impl_upTo, [(.t 2)], 17) := by kernel_rfl

def c_laws_szTeam : CC := (.seq (.ops [⟨(some 2), none, (.e (.box (.t 0)))⟩, ⟨(some 4), none, (.f (.mv (.k (.int .i64 0))))⟩]) (.seq (.ops [⟨(some 5), none, (.f (.mv (.t 1)))⟩, ⟨(some 6), none, (.f (.fa 0 (.t 2)))⟩, ⟨(some 7), none, (.f (.ld1 (.t 6)))⟩, ⟨(some 8), none, (.f (.lenS (.t 7)))⟩, ⟨(some 9), none, (.f (.bin .sub (.t 5) (.t 8)))⟩, ⟨(some 1), none, (.f (.mv (.t 9)))⟩]) (.seq (.seq (.ops [⟨(some 10), none, (.f (.mv (.t 1)))⟩, ⟨(some 11), none, (.f (.bin .lss (.t 10) (.k (.int .i64 0))))⟩]) (.cond (.t 11) (.seq (.ops [⟨(some 4), none, (.f (.mv (.k (.int .i64 (-1)))))⟩]) .ret) .skip)) (.seq (.ops [⟨(some 12), none, (.f (.mv (.t 1)))⟩, ⟨(some 4), none, (.f (.mv (.t 12)))⟩]) .ret))))
theorem k_laws_szTeam : compFn Tryz.prog [] F.laws_szTeam = some (c_laws_szTeam, [(.t 4)], 13) := by kernel_rfl

def c_laws_toTeam : CC := (.seq (.ops [⟨(some 1), none, (.e (.box (.t 0)))⟩, ⟨(some 2), none, (.e (.new [(.v (.str [])), (.v (.int .i64 0)), (.v (.int .i64 0))]))⟩]) (.seq (.ops [⟨(some 3), none, (.e (.new [(.v (.str [])), (.v (.int .i64 0)), (.v (.int .i64 0))]))⟩]) (.seq (.ops [⟨(some 4), none, (.f (.fa 0 (.t 1)))⟩, ⟨(some 5), none, (.f (.ld1 (.t 4)))⟩, ⟨(some 6), none, (.f (.fa 0 (.t 3)))⟩, ⟨none, none, (.e (.st 1 (.t 6) (.t 5)))⟩]) (.seq (.ops [⟨(some 7), none, (.f (.fa 1 (.t 1)))⟩, ⟨(some 8), none, (.f (.ld1 (.t 7)))⟩, ⟨(some 9), none, (.f (.fa 1 (.t 3)))⟩, ⟨none, none, (.e (.st 1 (.t 9) (.t 8)))⟩]) (.seq (.ops [⟨(some 10), none, (.f (.fa 2 (.t 1)))⟩, ⟨(some 11), none, (.f (.ld1 (.t 10)))⟩, ⟨(some 12), none, (.f (.fa 2 (.t 3)))⟩, ⟨none, none, (.e (.st 1 (.t 12) (.t 11)))⟩]) (.seq (.ops [⟨(some 13), none, (.f (.ld 3 (.t 3)))⟩, ⟨none, none, (.e (.st 3 (.t 2) (.t 13)))⟩]) .ret))))))
theorem k_laws_toTeam : compFn Tryz.prog [] F.laws_toTeam = some (c_laws_toTeam, [(.cl 3 2)], 14) := by kernel_rfl

def c_laws_toGame : CC := (.seq (.ops [⟨(some 1), none, (.e (.box (.t 0)))⟩, ⟨(some 2), none, (.e (.new [(.v (.int .i64 0)), (.v (.int .i64 0)), (.v (.int .i64 0)), (.v (.int .i64 0)), (.v (.int .i64 0))]))⟩]) (.seq (.ops [⟨(some 3), none, (.e (.new [(.v (.int .i64 0)), (.v (.int .i64 0)), (.v (.int .i64 0)), (.v (.int .i64 0)), (.v (.int .i64 0))]))⟩]) (.seq (.ops [⟨(some 4), none, (.f (.fa 0 (.t 1)))⟩, ⟨(some 5), none, (.f (.ld1 (.t 4)))⟩, ⟨(some 6), none, (.f (.fa 0 (.t 3)))⟩, ⟨none, none, (.e (.st 1 (.t 6) (.t 5)))⟩]) (.seq (.ops [⟨(some 7), none, (.f (.fa 1 (.t 1)))⟩, ⟨(some 8), none, (.f (.ld1 (.t 7)))⟩, ⟨(some 9), none, (.f (.fa 1 (.t 3)))⟩, ⟨none, none, (.e (.st 1 (.t 9) (.t 8)))⟩]) (.seq (.ops [⟨(some 10), none, (.f (.fa 2 (.t 1)))⟩, ⟨(some 11), none, (.f (.ld1 (.t 10)))⟩, ⟨(some 12), none, (.f (.fa 2 (.t 3)))⟩, ⟨none, none, (.e (.st 1 (.t 12) (.t 11)))⟩]) (.seq (.ops [⟨(some 13), none, (.f (.fa 3 (.t 1)))⟩, ⟨(some 14), none, (.f (.ld1 (.t 13)))⟩, ⟨(some 15), none, (.f (.fa 3 (.t 3)))⟩, ⟨none, none, (.e (.st 1 (.t 15) (.t 14)))⟩]) (.seq (.ops [⟨(some 16), none, (.f (.fa 4 (.t 1)))⟩, ⟨(some 17), none, (.f (.ld1 (.t 16)))⟩, ⟨(some 18), none, (.f (.fa 4 (.t 3)))⟩, ⟨none, none, (.e (.st 1 (.t 18) (.t 17)))⟩]) (.seq (.ops [⟨(some 19), none, (.f (.ld 5 (.t 3)))⟩, ⟨none, none, (.e (.st 5 (.t 2) (.t 19)))⟩]) .ret))))))))
theorem k_laws_toGame : compFn Tryz.prog [] F.laws_toGame = some (c_laws_toGame, [(.cl 5 2)], 20) := by kernel_rfl

def c_laws_eqTeam : CC := (.seq (.ops [⟨(some 2), none, (.e (.box (.t 0)))⟩, ⟨(some 3), none, (.e (.box (.t 1)))⟩, ⟨(some 4), none, (.f (.mv (.k (.bool false))))⟩]) (.seq (.seq (.ops [⟨(some 5), none, (.f (.fa 0 (.t 2)))⟩, ⟨(some 6), none, (.f (.ld1 (.t 5)))⟩, ⟨(some 7), none, (.f (.fa 0 (.t 3)))⟩, ⟨(some 8), none, (.f (.ld1 (.t 7)))⟩, ⟨(some 9), none, (.f (.bin .neq (.t 6) (.t 8)))⟩]) (.cond (.t 9) (.seq (.ops [⟨(some 4), none, (.f (.mv (.k (.bool false))))⟩]) .ret) .skip)) (.seq (.seq (.ops [⟨(some 10), none, (.f (.fa 1 (.t 2)))⟩, ⟨(some 11), none, (.f (.ld1 (.t 10)))⟩, ⟨(some 12), none, (.f (.fa 1 (.t 3)))⟩, ⟨(some 13), none, (.f (.ld1 (.t 12)))⟩, ⟨(some 14), none, (.f (.bin .neq (.t 11) (.t 13)))⟩]) (.cond (.t 14) (.seq (.ops [⟨(some 4), none, (.f (.mv (.k (.bool false))))⟩]) .ret) .skip)) (.seq (.seq (.ops [⟨(some 15), none, (.f (.fa 2 (.t 2)))⟩, ⟨(some 16), none, (.f (.ld1 (.t 15)))⟩, ⟨(some 17), none, (.f (.fa 2 (.t 3)))⟩, ⟨(some 18), none, (.f (.ld1 (.t 17)))⟩, ⟨(some 19), none, (.f (.bin .neq (.t 16) (.t 18)))⟩]) (.cond (.t 19) (.seq (.ops [⟨(some 4), none, (.f (.mv (.k (.bool false))))⟩]) .ret) .skip)) (.seq (.ops [⟨(some 4), none, (.f (.mv (.k (.bool true))))⟩]) .ret)))))
theorem k_laws_eqTeam : compFn Tryz.prog [] F.laws_eqTeam = some (c_laws_eqTeam, [(.t 4)], 20) := by kernel_rfl

def c_laws_eqGame : CC := (.seq (.ops [⟨(some 2), none, (.e (.box (.t 0)))⟩, ⟨(some 3), none, (.e (.box (.t 1)))⟩, ⟨(some 4), none, (.f (.mv (.k (.bool false))))⟩]) (.seq (.seq (.ops [⟨(some 5), none, (.f (.fa 0 (.t 2)))⟩, ⟨(some 6), none, (.f (.ld1 (.t 5)))⟩, ⟨(some 7), none, (.f (.fa 0 (.t 3)))⟩, ⟨(some 8), none, (.f (.ld1 (.t 7)))⟩, ⟨(some 9), none, (.f (.bin .neq (.t 6) (.t 8)))⟩]) (.cond (.t 9) (.seq (.ops [⟨(some 4), none, (.f (.mv (.k (.bool false))))⟩]) .ret) .skip)) (.seq (.seq (.ops [⟨(some 10), none, (.f (.fa 1 (.t 2)))⟩, ⟨(some 11), none, (.f (.ld1 (.t 10)))⟩, ⟨(some 12), none, (.f (.fa 1 (.t 3)))⟩, ⟨(some 13), none, (.f (.ld1 (.t 12)))⟩, ⟨(some 14), none, (.f (.bin .neq (.t 11) (.t 13)))⟩]) (.cond (.t 14) (.seq (.ops [⟨(some 4), none, (.f (.mv (.k (.bool false))))⟩]) .ret) .skip)) (.seq (.seq (.ops [⟨(some 15), none, (.f (.fa 2 (.t 2)))⟩, ⟨(some 16), none, (.f (.ld1 (.t 15)))⟩, ⟨(some 17), none, (.f (.fa 2 (.t 3)))⟩, ⟨(some 18), none, (.f (.ld1 (.t 17)))⟩, ⟨(some 19), none, (.f (.bin .neq (.t 16) (.t 18)))⟩]) (.cond (.t 19) (.seq (.ops [⟨(some 4), none, (.f (.mv (.k (.bool false))))⟩]) .ret) .skip)) (.seq (.seq (.ops [⟨(some 20), none, (.f (.fa 3 (.t 2)))⟩, ⟨(some 21), none, (.f (.ld1 (.t 20)))⟩, ⟨(some 22), none, (.f (.fa 3 (.t 3)))⟩, ⟨(some 23), none, (.f (.ld1 (.t 22)))⟩, ⟨(some 24), none, (.f (.bin .neq (.t 21) (.t 23)))⟩]) (.cond (.t 24) (.seq (.ops [⟨(some 4), none, (.f (.mv (.k (.bool false))))⟩]) .ret) .skip)) (.seq (.seq (.ops [⟨(some 25), none, (.f (.fa 4 (.t 2)))⟩, ⟨(some 26), none, (.f (.ld1 (.t 25)))⟩, ⟨(some 27), none, (.f (.fa 4 (.t 3)))⟩, ⟨(some 28), none, (.f (.ld1 (.t 27)))⟩, ⟨(some 29), none, (.f (.bin .neq (.t 26) (.t 28)))⟩]) (.cond (.t 29) (.seq (.ops [⟨(some 4), none, (.f (.mv (.k (.bool false))))⟩]) .ret) .skip)) (.seq (.ops [⟨(some 4), none, (.f (.mv (.k (.bool true))))⟩]) .ret)))))))
theorem k_laws_eqGame : compFn Tryz.prog [] F.laws_eqGame = some (c_laws_eqGame, [(.t 4)], 30) := by kernel_rfl

def c_spec_BookOk : CC := (.seq (.ops [⟨(some 1), none, (.e (.box (.t 0)))⟩, ⟨(some 2), none, (.f (.mv (.k (.bool false))))⟩]) (.seq (.ops [⟨(some 5), none, (.f (.fa 0 (.t 1)))⟩, ⟨(some 6), none, (.f (.ld1 (.t 5)))⟩, ⟨(some 7), none, (.f (.len (.t 6)))⟩, ⟨(some 3), none, (.f (.mv (.t 7)))⟩]) (.seq (.seq (.ops [⟨(some 8), none, (.f (.fa 0 (.t 1)))⟩, ⟨(some 9), none, (.f (.ld1 (.t 8)))⟩, ⟨(some 10), none, (.e (.call false F.spec_FieldOk [(.t 9)]))⟩, ⟨(some 11), none, (.f (.not (.t 10)))⟩, ⟨(some 12), none, (.f (.mv (.t 11)))⟩, ⟨(some 13), (some (12, false)), (.f (.fa 1 (.t 1)))⟩, ⟨(some 14), (some (12, false)), (.f (.ld 5 (.t 13)))⟩, ⟨(some 15), (some (12, false)), (.e (.call false F.spec_RulesOk [(.t 14)]))⟩, ⟨(some 16), (some (12, false)), (.f (.not (.t 15)))⟩, ⟨(some 17), none, (.f (.pick (.t 12) (.k (.bool true)) (.t 16)))⟩, ⟨(some 18), none, (.f (.mv (.t 17)))⟩, ⟨(some 19), (some (18, false)), (.f (.mv (.t 3)))⟩, ⟨(some 20), (some (18, false)), (.f (.fa 6 (.t 1)))⟩, ⟨(some 21), (some (18, false)), (.f (.ld1 (.t 20)))⟩, ⟨(some 22), (some (18, false)), (.e (.call false F.spec_SeasonOk [(.t 19), (.t 21)]))⟩, ⟨(some 23), (some (18, false)), (.f (.not (.t 22)))⟩, ⟨(some 24), none, (.f (.pick (.t 18) (.k (.bool true)) (.t 23)))⟩, ⟨(some 25), none, (.f (.mv (.t 24)))⟩, ⟨(some 26), (some (25, false)), (.f (.fa 7 (.t 1)))⟩, ⟨(some 27), (some (25, false)), (.f (.ld1 (.t 26)))⟩, ⟨(some 28), (some (25, false)), (.f (.len (.t 27)))⟩, ⟨(some 29), (some (25, false)), (.f (.mv (.t 3)))⟩, ⟨(some 30), (some (25, false)), (.f (.bin .neq (.t 28) (.t 29)))⟩, ⟨(some 31), none, (.f (.pick (.t 25) (.k (.bool true)) (.t 30)))⟩, ⟨(some 32), none, (.f (.mv (.t 31)))⟩, ⟨(some 33), (some (32, false)), (.f (.fa 8 (.t 1)))⟩, ⟨(some 34), (some (32, false)), (.f (.ld1 (.t 33)))⟩, ⟨(some 35), (some (32, false)), (.f (.len (.t 34)))⟩, ⟨(some 36), (some (32, false)), (.f (.mv (.t 3)))⟩, ⟨(some 37), (some (32, false)), (.f (.bin .neq (.t 35) (.t 36)))⟩, ⟨(some 38), none, (.f (.pick (.t 32) (.k (.bool true)) (.t 37)))⟩]) (.cond (.t 38) (.seq (.ops [⟨(some 2), none, (.f (.mv (.k (.bool false))))⟩]) .ret) .skip)) (.seq (.seq (.ops [⟨(some 39), none, (.f (.fa 0 (.t 1)))⟩, ⟨(some 40), none, (.f (.ld1 (.t 39)))⟩, ⟨(some 41), none, (.f (.len (.t 40)))⟩, ⟨(some 42), none, (.f (.mv (.k (.int .i64 0))))⟩]) (.block 0 (.loop (.seq (.ops [⟨(some 43), none, (.f (.bin .lss (.t 42) (.t 41)))⟩]) (.seq (.cond (.t 43) .skip (.exit 0)) (.seq (.block 1 (.seq (.ops [⟨(some 44), none, (.f (.mv (.t 42)))⟩, ⟨(some 4), none, (.f (.mv (.t 44)))⟩]) (.seq (.ops [⟨(some 45), none, (.f (.fa 7 (.t 1)))⟩, ⟨(some 46), none, (.f (.ld1 (.t 45)))⟩, ⟨(some 47), none, (.f (.mv (.t 4)))⟩, ⟨(some 48), none, (.f (.ia 1 (.t 46) (.t 47)))⟩, ⟨(some 49), none, (.f (.ld1 (.t 48)))⟩, ⟨(some 50), none, (.e (.call false F.spec_l01In [(.t 49), (.k (.int .i64 0)), (.k (.int .i64 1000))]))⟩, ⟨(some 51), none, (.f (.not (.t 50)))⟩, ⟨(some 52), none, (.f (.mv (.t 51)))⟩, ⟨(some 53), (some (52, false)), (.f (.fa 8 (.t 1)))⟩, ⟨(some 54), (some (52, false)), (.f (.ld1 (.t 53)))⟩, ⟨(some 55), (some (52, false)), (.f (.mv (.t 4)))⟩, ⟨(some 56), (some (52, false)), (.f (.ia 1 (.t 54) (.t 55)))⟩, ⟨(some 57), (some (52, false)), (.f (.ld1 (.t 56)))⟩, ⟨(some 58), (some (52, false)), (.e (.call false F.spec_l01In [(.t 57), (.k (.int .i64 0)), (.k (.int .i64 1000))]))⟩, ⟨(some 59), (some (52, false)), (.f (.not (.t 58)))⟩, ⟨(some 60), none, (.f (.pick (.t 52) (.k (.bool true)) (.t 59)))⟩]) (.cond (.t 60) (.seq (.ops [⟨(some 2), none, (.f (.mv (.k (.bool false))))⟩]) .ret) .skip)))) (.ops [⟨(some 61), none, (.f (.bin .add (.t 42) (.k (.int .i64 1))))⟩, ⟨(some 42), none, (.f (.mv (.t 61)))⟩]))))))) (.seq (.ops [⟨(some 2), none, (.f (.mv (.k (.bool true))))⟩]) .ret)))))
theorem k_spec_BookOk : compFn Tryz.prog [] F.spec_BookOk = some (c_spec_BookOk, [(.t 2)], 62) := by kernel_rfl

def c_spec_l16Copy : CC := (.seq (.ops [⟨(some 1), none, (.e (.box (.t 0)))⟩, ⟨(some 2), none, (.e (.new [.nil, (.v (.int .i64 0)), (.v (.int .i64 0)), (.v (.int .i64 0)), .nil, (.v (.bool false)), .nil, .nil, .nil]))⟩]) (.seq (.ops [⟨(some 3), none, (.e (.mks 3 0 [(.v (.str [])), (.v (.int .i64 0)), (.v (.int .i64 0))] []))⟩, ⟨(some 4), none, (.f (.fa 0 (.t 1)))⟩, ⟨(some 5), none, (.f (.ld1 (.t 4)))⟩, ⟨(some 6), none, (.e (.app 3 32 (.t 3) (.t 5)))⟩, ⟨(some 7), none, (.f (.fa 0 (.t 1)))⟩, ⟨none, none, (.e (.st 1 (.t 7) (.t 6)))⟩]) (.seq (.ops [⟨(some 8), none, (.e (.mks 1 0 [(.v (.int .i64 0))] []))⟩, ⟨(some 9), none, (.f (.fa 1 (.t 1)))⟩, ⟨(some 10), none, (.f (.fa 3 (.t 9)))⟩, ⟨(some 11), none, (.f (.ld1 (.t 10)))⟩, ⟨(some 12), none, (.e (.app 1 8 (.t 8) (.t 11)))⟩, ⟨(some 13), none, (.f (.fa 1 (.t 1)))⟩, ⟨(some 14), none, (.f (.fa 3 (.t 13)))⟩, ⟨none, none, (.e (.st 1 (.t 14) (.t 12)))⟩]) (.seq (.ops [⟨(some 15), none, (.e (.mks 5 0 [(.v (.int .i64 0)), (.v (.int .i64 0)), (.v (.int .i64 0)), (.v (.int .i64 0)), (.v (.int .i64 0))] []))⟩, ⟨(some 16), none, (.f (.fa 6 (.t 1)))⟩, ⟨(some 17), none, (.f (.ld1 (.t 16)))⟩, ⟨(some 18), none, (.e (.app 5 40 (.t 15) (.t 17)))⟩, ⟨(some 19), none, (.f (.fa 6 (.t 1)))⟩, ⟨none, none, (.e (.st 1 (.t 19) (.t 18)))⟩]) (.seq (.ops [⟨(some 20), none, (.e (.mks 1 0 [(.v (.int .i64 0))] []))⟩, ⟨(some 21), none, (.f (.fa 7 (.t 1)))⟩, ⟨(some 22), none, (.f (.ld1 (.t 21)))⟩, ⟨(some 23), none, (.e (.app 1 8 (.t 20) (.t 22)))⟩, ⟨(some 24), none, (.f (.fa 7 (.t 1)))⟩, ⟨none, none, (.e (.st 1 (.t 24) (.t 23)))⟩]) (.seq (.ops [⟨(some 25), none, (.e (.mks 1 0 [(.v (.int .i64 0))] []))⟩, ⟨(some 26), none, (.f (.fa 8 (.t 1)))⟩, ⟨(some 27), none, (.f (.ld1 (.t 26)))⟩, ⟨(some 28), none, (.e (.app 1 8 (.t 25) (.t 27)))⟩, ⟨(some 29), none, (.f (.fa 8 (.t 1)))⟩, ⟨none, none, (.e (.st 1 (.t 29) (.t 28)))⟩]) (.seq (.ops [⟨(some 30), none, (.f (.ld 9 (.t 1)))⟩, ⟨none, none, (.e (.st 9 (.t 2) (.t 30)))⟩]) .ret)))))))
theorem k_spec_l16Copy : compFn Tryz.prog [] F.spec_l16Copy = some (c_spec_l16Copy, [(.cl 9 2)], 31) := by kernel_rfl

end Go.Proofs.YtneiicadhjdbiaaGreat.Ab

namespace Go.Proofs.YtneiicadhjdbiaaGreat.Ab
open Go

def c_spec_RulesOk : CC := (.seq (.ops [⟨(some 1), none, (.e (.box (.t 0)))⟩, ⟨(some 2), none, (.f (.mv (.k (.bool false))))⟩]) (.seq (.seq (.ops [⟨(some 5), none, (.f (.fa 0 (.t 1)))⟩, ⟨(some 6), none, (.f (.ld1 (.t 5)))⟩, ⟨(some 7), none, (.e (.call false F.spec_l01In [(.t 6), (.k (.int .i64 0)), (.k (.int .i64 10))]))⟩, ⟨(some 8), none, (.f (.not (.t 7)))⟩, ⟨(some 9), none, (.f (.mv (.t 8)))⟩, ⟨(some 10), (some (9, false)), (.f (.fa 1 (.t 1)))⟩, ⟨(some 11), (some (9, false)), (.f (.ld1 (.t 10)))⟩, ⟨(some 12), (some (9, false)), (.f (.fa 0 (.t 1)))⟩, ⟨(some 13), (some (9, false)), (.f (.ld1 (.t 12)))⟩, ⟨(some 14), (some (9, false)), (.e (.call false F.spec_l01In [(.t 11), (.k (.int .i64 0)), (.t 13)]))⟩, ⟨(some 15), (some (9, false)), (.f (.not (.t 14)))⟩, ⟨(some 16), none, (.f (.pick (.t 9) (.k (.bool true)) (.t 15)))⟩, ⟨(some 17), none, (.f (.mv (.t 16)))⟩, ⟨(some 18), (some (17, false)), (.f (.fa 2 (.t 1)))⟩, ⟨(some 19), (some (17, false)), (.f (.ld1 (.t 18)))⟩, ⟨(some 20), (some (17, false)), (.f (.fa 1 (.t 1)))⟩, ⟨(some 21), (some (17, false)), (.f (.ld1 (.t 20)))⟩, ⟨(some 22), (some (17, false)), (.e (.call false F.spec_l01In [(.t 19), (.k (.int .i64 0)), (.t 21)]))⟩, ⟨(some 23), (some (17, false)), (.f (.not (.t 22)))⟩, ⟨(some 24), none, (.f (.pick (.t 17) (.k (.bool true)) (.t 23)))⟩, ⟨(some 25), none, (.f (.mv (.t 24)))⟩, ⟨(some 26), (some (25, false)), (.f (.fa 3 (.t 1)))⟩, ⟨(some 27), (some (25, false)), (.f (.ld1 (.t 26)))⟩, ⟨(some 28), (some (25, false)), (.f (.len (.t 27)))⟩, ⟨(some 29), (some (25, false)), (.e (.call false F.spec_l01In [(.t 28), (.k (.int .i64 1)), (.k (.int .i64 8))]))⟩, ⟨(some 30), (some (25, false)), (.f (.not (.t 29)))⟩, ⟨(some 31), none, (.f (.pick (.t 25) (.k (.bool true)) (.t 30)))⟩]) (.cond (.t 31) (.seq (.ops [⟨(some 2), none, (.f (.mv (.k (.bool false))))⟩]) .ret) .skip)) (.seq (.seq (.ops [⟨(some 32), none, (.f (.fa 3 (.t 1)))⟩, ⟨(some 33), none, (.f (.ld1 (.t 32)))⟩, ⟨(some 34), none, (.f (.len (.t 33)))⟩, ⟨(some 35), none, (.f (.mv (.k (.int .i64 0))))⟩]) (.block 0 (.loop (.seq (.ops [⟨(some 36), none, (.f (.bin .lss (.t 35) (.t 34)))⟩]) (.seq (.cond (.t 36) .skip (.exit 0)) (.seq (.block 1 (.seq (.ops [⟨(some 37), none, (.f (.mv (.t 35)))⟩, ⟨(some 38), none, (.f (.ia 1 (.t 33) (.t 35)))⟩, ⟨(some 39), none, (.f (.ld1 (.t 38)))⟩, ⟨(some 3), none, (.f (.mv (.t 37)))⟩, ⟨(some 4), none, (.f (.mv (.t 39)))⟩]) (.seq (.ops [⟨(some 40), none, (.f (.mv (.t 4)))⟩, ⟨(some 41), none, (.e (.call false F.spec_l01In [(.t 40), (.k (.int .i64 1)), (.k (.int .i64 8))]))⟩, ⟨(some 42), none, (.f (.not (.t 41)))⟩, ⟨(some 43), none, (.f (.mv (.t 42)))⟩, ⟨(some 44), (some (43, false)), (.f (.fa 3 (.t 1)))⟩, ⟨(some 45), (some (43, false)), (.f (.ld1 (.t 44)))⟩, ⟨(some 46), (some (43, false)), (.f (.mv (.t 3)))⟩, ⟨(some 47), (some (43, false)), (.f (.sls 1 (.t 45) none (some (.t 46))))⟩, ⟨(some 48), (some (43, false)), (.f (.mv (.t 4)))⟩, ⟨(some 49), (some (43, false)), (.e (.call false F.spec_l02Has [(.t 47), (.t 48)]))⟩, ⟨(some 50), none, (.f (.pick (.t 43) (.k (.bool true)) (.t 49)))⟩]) (.cond (.t 50) (.seq (.ops [⟨(some 2), none, (.f (.mv (.k (.bool false))))⟩]) .ret) .skip)))) (.ops [⟨(some 51), none, (.f (.bin .add (.t 35) (.k (.int .i64 1))))⟩, ⟨(some 35), none, (.f (.mv (.t 51)))⟩]))))))) (.seq (.ops [⟨(some 2), none, (.f (.mv (.k (.bool true))))⟩]) .ret))))
theorem k_spec_RulesOk : compFn Tryz.prog [] F.spec_RulesOk = some (c_spec_RulesOk, [(.t 2)], 52) := by kernel_rfl

def c_spec_RankGroups : CC := (.seq (.ops [⟨(some 1), none, (.e (.box (.t 0)))⟩, ⟨(some 2), none, (.f (.mv .nil))⟩]) (.seq (.ops [⟨(some 3), none, (.f (.ld 9 (.t 1)))⟩, ⟨(some 4), none, (.f (.ld 9 (.t 1)))⟩, ⟨(some 5), none, (.e (.call true F.spec_l07All [(.t 4)]))⟩, ⟨(some 6), none, (.e (.call false F.spec_RankFrom [(.t 3), (.t 5), (.k (.int .i64 0))]))⟩, ⟨(some 2), none, (.f (.mv (.t 6)))⟩]) .ret))
theorem k_spec_RankGroups : compFn Tryz.prog [] F.spec_RankGroups = some (c_spec_RankGroups, [(.t 2)], 7) := by kernel_rfl

def c_impl_BookOk : CC := (.seq (.ops [⟨(some 1), none, (.e (.box (.t 0)))⟩, ⟨(some 2), none, (.f (.mv (.k (.bool false))))⟩]) (.seq (.ops [⟨(some 4), none, (.f (.fa 0 (.t 1)))⟩, ⟨(some 5), none, (.f (.ld1 (.t 4)))⟩, ⟨(some 6), none, (.f (.len (.t 5)))⟩, ⟨(some 3), none, (.f (.mv (.t 6)))⟩]) (.seq (.ops [⟨(some 7), none, (.f (.fa 0 (.t 1)))⟩, ⟨(some 8), none, (.f (.ld1 (.t 7)))⟩, ⟨(some 9), none, (.e (.call false F.impl_FieldOk [(.t 8)]))⟩, ⟨(some 10), none, (.f (.mv (.t 9)))⟩, ⟨(some 11), (some (10, true)), (.f (.fa 1 (.t 1)))⟩, ⟨(some 12), (some (10, true)), (.f (.ld 5 (.t 11)))⟩, ⟨(some 13), (some (10, true)), (.e (.call false F.impl_RulesOk [(.t 12)]))⟩, ⟨(some 14), none, (.f (.pick (.t 10) (.t 13) (.k (.bool false))))⟩, ⟨(some 15), none, (.f (.mv (.t 14)))⟩, ⟨(some 16), (some (15, true)), (.f (.mv (.t 3)))⟩, ⟨(some 17), (some (15, true)), (.f (.fa 6 (.t 1)))⟩, ⟨(some 18), (some (15, true)), (.f (.ld1 (.t 17)))⟩, ⟨(some 19), (some (15, true)), (.e (.call false F.impl_SeasonOk [(.t 16), (.t 18)]))⟩, ⟨(some 20), none, (.f (.pick (.t 15) (.t 19) (.k (.bool false))))⟩, ⟨(some 21), none, (.f (.mv (.t 20)))⟩, ⟨(some 22), (some (21, true)), (.f (.fa 7 (.t 1)))⟩, ⟨(some 23), (some (21, true)), (.f (.ld1 (.t 22)))⟩, ⟨(some 24), (some (21, true)), (.f (.mv (.t 3)))⟩, ⟨(some 25), (some (21, true)), (.e (.call false F.impl_arePenalties [(.t 23), (.t 24)]))⟩, ⟨(some 26), none, (.f (.pick (.t 21) (.t 25) (.k (.bool false))))⟩, ⟨(some 27), none, (.f (.mv (.t 26)))⟩, ⟨(some 28), (some (27, true)), (.f (.fa 8 (.t 1)))⟩, ⟨(some 29), (some (27, true)), (.f (.ld1 (.t 28)))⟩, ⟨(some 30), (some (27, true)), (.f (.mv (.t 3)))⟩, ⟨(some 31), (some (27, true)), (.e (.call false F.impl_arePenalties [(.t 29), (.t 30)]))⟩, ⟨(some 32), none, (.f (.pick (.t 27) (.t 31) (.k (.bool false))))⟩, ⟨(some 2), none, (.f (.mv (.t 32)))⟩]) .ret)))
theorem k_impl_BookOk : compFn Tryz.prog [] F.impl_BookOk = some (c_impl_BookOk, [(.t 2)], 33) := by kernel_rfl

def c_impl_Book_copied : CC := (.seq (.ops [⟨(some 1), none, (.e (.box (.t 0)))⟩, ⟨(some 2), none, (.e (.new [.nil, (.v (.int .i64 0)), (.v (.int .i64 0)), (.v (.int .i64 0)), .nil, (.v (.bool false)), .nil, .nil, .nil]))⟩]) (.seq (.ops [⟨(some 3), none, (.f (.fa 0 (.t 1)))⟩, ⟨(some 4), none, (.f (.ld1 (.t 3)))⟩, ⟨(some 6), none, (.f (.fa 6 (.t 1)))⟩, ⟨(some 7), none, (.f (.ld1 (.t 6)))⟩, ⟨(some 9), none, (.f (.fa 7 (.t 1)))⟩, ⟨(some 10), none, (.f (.ld1 (.t 9)))⟩, ⟨(some 12), none, (.f (.fa 8 (.t 1)))⟩, ⟨(some 13), none, (.f (.ld1 (.t 12)))⟩, ⟨(some 5), none, (.e (.call true F.slices_Clone_Team [(.t 4)]))⟩, ⟨(some 15), none, (.f (.fa 0 (.t 1)))⟩, ⟨(some 8), none, (.e (.call true F.slices_Clone_Game [(.t 7)]))⟩, ⟨(some 11), none, (.e (.call true F.slices_Clone_int [(.t 10)]))⟩, ⟨(some 14), none, (.e (.call false F.slices_Clone_int [(.t 13)]))⟩, ⟨none, none, (.e (.st 1 (.t 15) (.t 5)))⟩, ⟨(some 16), none, (.f (.fa 6 (.t 1)))⟩, ⟨none, none, (.e (.st 1 (.t 16) (.t 8)))⟩, ⟨(some 17), none, (.f (.fa 7 (.t 1)))⟩, ⟨none, none, (.e (.st 1 (.t 17) (.t 11)))⟩, ⟨(some 18), none, (.f (.fa 8 (.t 1)))⟩, ⟨none, none, (.e (.st 1 (.t 18) (.t 14)))⟩]) (.seq (.ops [⟨(some 19), none, (.f (.fa 1 (.t 1)))⟩, ⟨(some 20), none, (.f (.fa 3 (.t 19)))⟩, ⟨(some 21), none, (.f (.ld1 (.t 20)))⟩, ⟨(some 22), none, (.e (.call false F.slices_Clone_int [(.t 21)]))⟩, ⟨(some 23), none, (.f (.fa 1 (.t 1)))⟩, ⟨(some 24), none, (.f (.fa 3 (.t 23)))⟩, ⟨none, none, (.e (.st 1 (.t 24) (.t 22)))⟩]) (.seq (.ops [⟨(some 25), none, (.f (.ld 9 (.t 1)))⟩, ⟨none, none, (.e (.st 9 (.t 2) (.t 25)))⟩]) .ret))))
theorem k_impl_Book_copied : compFn Tryz.prog [] F.impl_Book_copied = some (c_impl_Book_copied, [(.cl 9 2)], 26) := by kernel_rfl

def c_impl_RulesOk : CC := (.seq (.ops [⟨(some 1), none, (.e (.box (.t 0)))⟩, ⟨(some 2), none, (.f (.mv (.k (.bool false))))⟩]) (.seq (.seq (.ops [⟨(some 5), none, (.f (.fa 3 (.t 1)))⟩, ⟨(some 6), none, (.f (.ld1 (.t 5)))⟩, ⟨(some 7), none, (.f (.len (.t 6)))⟩, ⟨(some 8), none, (.f (.mv (.k (.int .i64 0))))⟩]) (.block 0 (.loop (.seq (.ops [⟨(some 9), none, (.f (.bin .lss (.t 8) (.t 7)))⟩]) (.seq (.cond (.t 9) .skip (.exit 0)) (.seq (.block 1 (.seq (.ops [⟨(some 10), none, (.f (.mv (.t 8)))⟩, ⟨(some 11), none, (.f (.ia 1 (.t 6) (.t 8)))⟩, ⟨(some 12), none, (.f (.ld1 (.t 11)))⟩, ⟨(some 3), none, (.f (.mv (.t 10)))⟩, ⟨(some 4), none, (.f (.mv (.t 12)))⟩]) (.seq (.ops [⟨(some 13), none, (.f (.mv (.t 4)))⟩, ⟨(some 14), none, (.e (.call false F.impl_isKey [(.t 13)]))⟩, ⟨(some 15), none, (.f (.not (.t 14)))⟩, ⟨(some 16), none, (.f (.mv (.t 15)))⟩, ⟨(some 17), (some (16, false)), (.f (.fa 3 (.t 1)))⟩, ⟨(some 18), (some (16, false)), (.f (.ld1 (.t 17)))⟩, ⟨(some 19), (some (16, false)), (.f (.mv (.t 3)))⟩, ⟨(some 20), (some (16, false)), (.f (.sls 1 (.t 18) none (some (.t 19))))⟩, ⟨(some 21), (some (16, false)), (.f (.mv (.t 4)))⟩, ⟨(some 22), (some (16, false)), (.e (.call false F.slices_Contains_int [(.t 20), (.t 21)]))⟩, ⟨(some 23), none, (.f (.pick (.t 16) (.k (.bool true)) (.t 22)))⟩]) (.cond (.t 23) (.seq (.ops [⟨(some 2), none, (.f (.mv (.k (.bool false))))⟩]) .ret) .skip)))) (.ops [⟨(some 24), none, (.f (.bin .add (.t 8) (.k (.int .i64 1))))⟩, ⟨(some 8), none, (.f (.mv (.t 24)))⟩]))))))) (.seq (.ops [⟨(some 25), none, (.f (.fa 2 (.t 1)))⟩, ⟨(some 26), none, (.f (.ld1 (.t 25)))⟩, ⟨(some 27), none, (.f (.bin .leq (.k (.int .i64 0)) (.t 26)))⟩, ⟨(some 28), none, (.f (.mv (.t 27)))⟩, ⟨(some 29), (some (28, true)), (.f (.fa 2 (.t 1)))⟩, ⟨(some 30), (some (28, true)), (.f (.ld1 (.t 29)))⟩, ⟨(some 31), (some (28, true)), (.f (.fa 1 (.t 1)))⟩, ⟨(some 32), (some (28, true)), (.f (.ld1 (.t 31)))⟩, ⟨(some 33), (some (28, true)), (.f (.bin .leq (.t 30) (.t 32)))⟩, ⟨(some 34), none, (.f (.pick (.t 28) (.t 33) (.k (.bool false))))⟩, ⟨(some 35), none, (.f (.mv (.t 34)))⟩, ⟨(some 36), (some (35, true)), (.f (.fa 1 (.t 1)))⟩, ⟨(some 37), (some (35, true)), (.f (.ld1 (.t 36)))⟩, ⟨(some 38), (some (35, true)), (.f (.fa 0 (.t 1)))⟩, ⟨(some 39), (some (35, true)), (.f (.ld1 (.t 38)))⟩, ⟨(some 40), (some (35, true)), (.f (.bin .leq (.t 37) (.t 39)))⟩, ⟨(some 41), none, (.f (.pick (.t 35) (.t 40) (.k (.bool false))))⟩, ⟨(some 42), none, (.f (.mv (.t 41)))⟩, ⟨(some 43), (some (42, true)), (.f (.fa 0 (.t 1)))⟩, ⟨(some 44), (some (42, true)), (.f (.ld1 (.t 43)))⟩, ⟨(some 45), (some (42, true)), (.f (.bin .leq (.t 44) (.k (.int .i64 10))))⟩, ⟨(some 46), none, (.f (.pick (.t 42) (.t 45) (.k (.bool false))))⟩, ⟨(some 47), none, (.f (.mv (.t 46)))⟩, ⟨(some 48), (some (47, true)), (.f (.fa 3 (.t 1)))⟩, ⟨(some 49), (some (47, true)), (.f (.ld1 (.t 48)))⟩, ⟨(some 50), (some (47, true)), (.f (.len (.t 49)))⟩, ⟨(some 51), (some (47, true)), (.e (.call false F.impl_within [(.t 50), (.k (.int .i64 1)), (.k (.int .i64 8))]))⟩, ⟨(some 52), none, (.f (.pick (.t 47) (.t 51) (.k (.bool false))))⟩, ⟨(some 2), none, (.f (.mv (.t 52)))⟩]) .ret)))
theorem k_impl_RulesOk : compFn Tryz.prog [] F.impl_RulesOk = some (c_impl_RulesOk, [(.t 2)], 53) := by kernel_rfl

def c_slices_Contains_int : CC := (.seq (.ops [⟨(some 4), none, (.f (.mv (.k (.bool false))))⟩]) (.seq (.ops [⟨(some 5), none, (.f (.mv (.t 0)))⟩, ⟨(some 6), none, (.f (.mv (.t 1)))⟩, ⟨(some 7), none, (.e (.call false F.slices_Index_int [(.t 5), (.t 6)]))⟩, ⟨(some 8), none, (.f (.bin .geq (.t 7) (.k (.int .i64 0))))⟩, ⟨(some 4), none, (.f (.mv (.t 8)))⟩]) .ret))
theorem k_slices_Contains_int : compFn Tryz.prog [] F.slices_Contains_int = some (c_slices_Contains_int, [(.t 4)], 9) := by kernel_rfl

def c_laws_markText : CC := (.seq (.ops [⟨(some 2), none, (.f (.mv (.k (.str []))))⟩]) (.seq (.seq (.ops [⟨(some 4), none, (.f (.mv (.t 0)))⟩, ⟨(some 5), none, (.f (.bin .leq (.t 4) (.k (.int .i64 0))))⟩]) (.cond (.t 5) (.seq (.ops [⟨(some 2), none, (.f (.mv (.k (.str [109, 48]))))⟩]) .ret) .skip)) (.seq (.ops [⟨(some 3), none, (.f (.mv (.k (.str []))))⟩]) (.seq (.block 0 (.loop (.seq (.seq (.ops [⟨(some 6), none, (.f (.mv (.t 0)))⟩, ⟨(some 7), none, (.f (.bin .gtr (.t 6) (.k (.int .i64 0))))⟩]) (.cond (.t 7) .skip (.exit 0))) (.block 1 (.seq (.ops [⟨(some 8), none, (.f (.mv (.t 0)))⟩, ⟨(some 9), none, (.f (.bin .rem (.t 8) (.k (.int .i64 10))))⟩, ⟨(some 10), none, (.f (.bin .add (.k (.int .i64 48)) (.t 9)))⟩, ⟨(some 11), none, (.f (.conv .u8 (.t 10)))⟩, ⟨(some 12), none, (.e (.mks 1 1 [(.v (.int .u8 0))] [(0, (1, (.t 11)))]))⟩, ⟨(some 13), none, (.f (.bstr (.t 12)))⟩, ⟨(some 14), none, (.f (.mv (.t 3)))⟩, ⟨(some 15), none, (.f (.bin .add (.t 13) (.t 14)))⟩, ⟨(some 3), none, (.f (.mv (.t 15)))⟩]) (.ops [⟨(some 16), none, (.f (.mv (.t 0)))⟩, ⟨(some 17), none, (.f (.bin .quo (.t 16) (.k (.int .i64 10))))⟩, ⟨(some 0), none, (.f (.mv (.t 17)))⟩])))))) (.seq (.ops [⟨(some 18), none, (.f (.mv (.t 3)))⟩, ⟨(some 19), none, (.f (.bin .add (.k (.str [109])) (.t 18)))⟩, ⟨(some 2), none, (.f (.mv (.t 19)))⟩]) .ret)))))
theorem k_laws_markText : compFn Tryz.prog [] F.laws_markText = some (c_laws_markText, [(.t 2)], 20) := by kernel_rfl

def c_spec_l16Open : CC := (.seq (.ops [⟨(some 1), none, (.e (.box (.t 0)))⟩, ⟨(some 2), none, (.f (.mv .nil))⟩, ⟨(some 3), none, (.f (.mv (.k (.bool false))))⟩]) (.seq (.ops [⟨(some 5), none, (.f (.fa 6 (.t 1)))⟩, ⟨(some 6), none, (.f (.ld1 (.t 5)))⟩, ⟨(some 7), none, (.e (.call false F.spec_OpenGames [(.t 6)]))⟩, ⟨(some 4), none, (.f (.mv (.t 7)))⟩]) (.seq (.ops [⟨(some 8), none, (.f (.mv (.t 4)))⟩, ⟨(some 9), none, (.f (.ld 9 (.t 1)))⟩, ⟨(some 10), none, (.e (.call false F.spec_BookOk [(.t 9)]))⟩, ⟨(some 11), none, (.f (.mv (.t 10)))⟩, ⟨(some 12), (some (11, true)), (.f (.mv (.t 4)))⟩, ⟨(some 13), (some (11, true)), (.f (.len (.t 12)))⟩, ⟨(some 14), (some (11, true)), (.f (.bin .leq (.t 13) (.k (.int .i64 5))))⟩, ⟨(some 15), none, (.f (.pick (.t 11) (.t 14) (.k (.bool false))))⟩, ⟨(some 2), none, (.f (.mv (.t 8)))⟩, ⟨(some 3), none, (.f (.mv (.t 15)))⟩]) .ret)))
theorem k_spec_l16Open : compFn Tryz.prog [] F.spec_l16Open = some (c_spec_l16Open, [(.t 2), (.t 3)], 16) := by kernel_rfl

def c_spec_CountOutcomes : CC := (.seq (.ops [⟨(some 1), none, (.e (.box (.t 0)))⟩, ⟨(some 2), none, (.f (.mv (.k (.int .i64 0))))⟩]) (.seq (.ops [⟨(some 7), none, (.f (.ld 9 (.t 1)))⟩, ⟨(some 8), none, (.e (.call false F.spec_l16Open [(.t 7)]))⟩, ⟨(some 6), none, (.f (.mv (.t 8)))⟩, ⟨(some 9), none, (.f (.ext (.t 6) 0))⟩, ⟨(some 10), none, (.f (.ext (.t 6) 1))⟩, ⟨(some 3), none, (.f (.mv (.t 9)))⟩, ⟨(some 4), none, (.f (.mv (.t 10)))⟩]) (.seq (.seq (.ops [⟨(some 11), none, (.f (.mv (.t 4)))⟩, ⟨(some 12), none, (.f (.not (.t 11)))⟩]) (.cond (.t 12) (.seq (.ops [⟨(some 2), none, (.f (.mv (.k (.int .i64 0))))⟩]) .ret) .skip)) (.seq (.ops [⟨(some 5), none, (.f (.mv (.k (.int .i64 1))))⟩]) (.seq (.seq (.ops [⟨(some 13), none, (.f (.mv (.t 3)))⟩, ⟨(some 14), none, (.f (.len (.t 13)))⟩, ⟨(some 15), none, (.f (.mv (.k (.int .i64 0))))⟩]) (.block 0 (.loop (.seq (.ops [⟨(some 16), none, (.f (.bin .lss (.t 15) (.t 14)))⟩]) (.seq (.cond (.t 16) .skip (.exit 0)) (.seq (.block 1 (.ops [⟨(some 17), none, (.f (.mv (.t 5)))⟩, ⟨(some 18), none, (.f (.bin .mul (.k (.int .i64 3)) (.t 17)))⟩, ⟨(some 5), none, (.f (.mv (.t 18)))⟩])) (.ops [⟨(some 19), none, (.f (.bin .add (.t 15) (.k (.int .i64 1))))⟩, ⟨(some 15), none, (.f (.mv (.t 19)))⟩]))))))) (.seq (.ops [⟨(some 20), none, (.f (.mv (.t 5)))⟩, ⟨(some 2), none, (.f (.mv (.t 20)))⟩]) .ret))))))
theorem k_spec_CountOutcomes : compFn Tryz.prog [] F.spec_CountOutcomes = some (c_spec_CountOutcomes, [(.t 2)], 21) := by kernel_rfl

def c_spec_RankOf : CC := (.seq (.ops [⟨(some 2), none, (.e (.box (.t 0)))⟩, ⟨(some 4), none, (.f (.mv (.k (.int .i64 0))))⟩]) (.seq (.ops [⟨(some 5), none, (.f (.mv (.k (.int .i64 1))))⟩]) (.seq (.seq (.ops [⟨(some 8), none, (.f (.ld 9 (.t 2)))⟩, ⟨(some 9), none, (.e (.call false F.spec_RankGroups [(.t 8)]))⟩, ⟨(some 10), none, (.f (.len (.t 9)))⟩, ⟨(some 11), none, (.f (.mv (.k (.int .i64 0))))⟩]) (.block 0 (.loop (.seq (.ops [⟨(some 12), none, (.f (.bin .lss (.t 11) (.t 10)))⟩]) (.seq (.cond (.t 12) .skip (.exit 0)) (.seq (.block 1 (.seq (.ops [⟨(some 13), none, (.f (.ia 1 (.t 9) (.t 11)))⟩, ⟨(some 14), none, (.f (.ld1 (.t 13)))⟩, ⟨(some 7), none, (.f (.mv (.t 14)))⟩]) (.seq (.seq (.ops [⟨(some 15), none, (.f (.mv (.t 7)))⟩, ⟨(some 16), none, (.f (.mv (.t 1)))⟩, ⟨(some 17), none, (.e (.call false F.spec_l02Has [(.t 15), (.t 16)]))⟩]) (.cond (.t 17) (.seq (.ops [⟨(some 18), none, (.f (.mv (.t 5)))⟩, ⟨(some 4), none, (.f (.mv (.t 18)))⟩]) .ret) .skip)) (.ops [⟨(some 19), none, (.f (.mv (.t 5)))⟩, ⟨(some 20), none, (.f (.mv (.t 7)))⟩, ⟨(some 21), none, (.f (.len (.t 20)))⟩, ⟨(some 22), none, (.f (.bin .add (.t 19) (.t 21)))⟩, ⟨(some 5), none, (.f (.mv (.t 22)))⟩])))) (.ops [⟨(some 23), none, (.f (.bin .add (.t 11) (.k (.int .i64 1))))⟩, ⟨(some 11), none, (.f (.mv (.t 23)))⟩]))))))) (.seq (.ops [⟨(some 4), none, (.f (.mv (.k (.int .i64 0))))⟩]) .ret))))
theorem k_spec_RankOf : compFn Tryz.prog [] F.spec_RankOf = some (c_spec_RankOf, [(.t 4)], 24) := by kernel_rfl

def c_spec_l16With : CC := (.seq (.ops [⟨(some 3), none, (.e (.box (.t 0)))⟩, ⟨(some 6), none, (.e (.new [.nil, (.v (.int .i64 0)), (.v (.int .i64 0)), (.v (.int .i64 0)), .nil, (.v (.bool false)), .nil, .nil, .nil]))⟩]) (.seq (.ops [⟨(some 10), none, (.f (.ld 9 (.t 3)))⟩, ⟨(some 11), none, (.e (.call false F.spec_l16Copy [(.t 10)]))⟩, ⟨(some 7), none, (.e (.new [.nil, (.v (.int .i64 0)), (.v (.int .i64 0)), (.v (.int .i64 0)), .nil, (.v (.bool false)), .nil, .nil, .nil]))⟩, ⟨none, none, (.e (.st 9 (.t 7) (.t 11)))⟩]) (.seq (.seq (.ops [⟨(some 12), none, (.f (.mv (.t 1)))⟩, ⟨(some 13), none, (.f (.len (.t 12)))⟩, ⟨(some 14), none, (.f (.mv (.k (.int .i64 0))))⟩]) (.block 0 (.loop (.seq (.ops [⟨(some 15), none, (.f (.bin .lss (.t 14) (.t 13)))⟩]) (.seq (.cond (.t 15) .skip (.exit 0)) (.seq (.block 1 (.seq (.ops [⟨(some 16), none, (.f (.mv (.t 14)))⟩, ⟨(some 17), none, (.f (.ia 1 (.t 12) (.t 14)))⟩, ⟨(some 18), none, (.f (.ld1 (.t 17)))⟩, ⟨(some 8), none, (.f (.mv (.t 16)))⟩, ⟨(some 9), none, (.f (.mv (.t 18)))⟩]) (.ops [⟨(some 19), none, (.f (.fa 6 (.t 7)))⟩, ⟨(some 20), none, (.f (.ld1 (.t 19)))⟩, ⟨(some 21), none, (.f (.mv (.t 9)))⟩, ⟨(some 22), none, (.f (.fa 6 (.t 7)))⟩, ⟨(some 23), none, (.f (.ld1 (.t 22)))⟩, ⟨(some 24), none, (.f (.mv (.t 9)))⟩, ⟨(some 25), none, (.f (.ia 5 (.t 23) (.t 24)))⟩, ⟨(some 26), none, (.f (.ld 5 (.t 25)))⟩, ⟨(some 27), none, (.f (.mv (.t 2)))⟩, ⟨(some 28), none, (.f (.mv (.t 8)))⟩, ⟨(some 29), none, (.f (.ia 1 (.t 27) (.t 28)))⟩, ⟨(some 30), none, (.f (.ld1 (.t 29)))⟩, ⟨(some 31), none, (.e (.call true F.spec_PlayGame [(.t 26), (.t 30)]))⟩, ⟨(some 32), none, (.f (.ia 5 (.t 20) (.t 21)))⟩, ⟨none, none, (.e (.st 5 (.t 32) (.t 31)))⟩]))) (.ops [⟨(some 33), none, (.f (.bin .add (.t 14) (.k (.int .i64 1))))⟩, ⟨(some 14), none, (.f (.mv (.t 33)))⟩]))))))) (.seq (.ops [⟨(some 34), none, (.f (.ld 9 (.t 7)))⟩, ⟨none, none, (.e (.st 9 (.t 6) (.t 34)))⟩]) .ret))))
theorem k_spec_l16With : compFn Tryz.prog [] F.spec_l16With = some (c_spec_l16With, [(.cl 9 6)], 35) := by kernel_rfl

def c_spec_l16At : CC := (.seq (.ops [⟨(some 4), none, (.f (.mv .nil))⟩]) (.seq (.ops [⟨(some 7), none, (.f (.mv (.t 0)))⟩, ⟨(some 8), none, (.e (.mk 1 8 [(.v (.int .i64 0))] (.t 7) (.t 7)))⟩, ⟨(some 5), none, (.f (.mv (.t 8)))⟩]) (.seq (.seq (.ops [⟨(some 9), none, (.f (.mv (.t 0)))⟩, ⟨(some 10), none, (.f (.bin .sub (.t 9) (.k (.int .i64 1))))⟩, ⟨(some 6), none, (.f (.mv (.t 10)))⟩]) (.block 0 (.loop (.seq (.seq (.ops [⟨(some 11), none, (.f (.mv (.t 6)))⟩, ⟨(some 12), none, (.f (.bin .geq (.t 11) (.k (.int .i64 0))))⟩]) (.cond (.t 12) .skip (.exit 0))) (.seq (.block 1 (.seq (.ops [⟨(some 15), none, (.f (.mv (.t 5)))⟩, ⟨(some 16), none, (.f (.mv (.t 6)))⟩, ⟨(some 17), none, (.f (.mv (.t 1)))⟩, ⟨(some 18), none, (.f (.bin .rem (.t 17) (.k (.int .i64 3))))⟩, ⟨(some 19), none, (.f (.bin .add (.k (.int .i64 1)) (.t 18)))⟩, ⟨(some 20), none, (.f (.ia 1 (.t 15) (.t 16)))⟩, ⟨none, none, (.e (.st 1 (.t 20) (.t 19)))⟩]) (.ops [⟨(some 21), none, (.f (.mv (.t 1)))⟩, ⟨(some 22), none, (.f (.bin .quo (.t 21) (.k (.int .i64 3))))⟩, ⟨(some 1), none, (.f (.mv (.t 22)))⟩]))) (.ops [⟨(some 13), none, (.f (.mv (.t 6)))⟩, ⟨(some 14), none, (.f (.bin .sub (.t 13) (.k (.int .i64 1))))⟩, ⟨(some 6), none, (.f (.mv (.t 14)))⟩])))))) (.seq (.ops [⟨(some 23), none, (.f (.mv (.t 5)))⟩, ⟨(some 4), none, (.f (.mv (.t 23)))⟩]) .ret))))
theorem k_spec_l16At : compFn Tryz.prog [] F.spec_l16At = some (c_spec_l16At, [(.t 4)], 24) := by kernel_rfl

def c_impl_isShort : CC := (.seq (.ops [⟨(some 1), none, (.e (.box (.t 0)))⟩, ⟨(some 2), none, (.f (.mv (.k (.bool false))))⟩]) (.seq (.ops [⟨(some 3), none, (.f (.ld 9 (.t 1)))⟩, ⟨(some 4), none, (.e (.call false F.impl_BookOk [(.t 3)]))⟩, ⟨(some 5), none, (.f (.mv (.t 4)))⟩, ⟨(some 6), (some (5, true)), (.f (.fa 6 (.t 1)))⟩, ⟨(some 7), (some (5, true)), (.f (.ld1 (.t 6)))⟩, ⟨(some 8), (some (5, true)), (.e (.call false F.impl_OpenGames [(.t 7)]))⟩, ⟨(some 9), (some (5, true)), (.f (.len (.t 8)))⟩, ⟨(some 10), (some (5, true)), (.f (.bin .leq (.t 9) (.k (.int .i64 5))))⟩, ⟨(some 11), none, (.f (.pick (.t 5) (.t 10) (.k (.bool false))))⟩, ⟨(some 2), none, (.f (.mv (.t 11)))⟩]) .ret))
theorem k_impl_isShort : compFn Tryz.prog [] F.impl_isShort = some (c_impl_isShort, [(.t 2)], 12) := by kernel_rfl

def c_impl_isTeam : CC := (.seq (.ops [⟨(some 2), none, (.e (.box (.t 0)))⟩, ⟨(some 4), none, (.f (.mv (.k (.bool false))))⟩]) (.seq (.ops [⟨(some 5), none, (.f (.mv (.t 1)))⟩, ⟨(some 6), none, (.f (.fa 0 (.t 2)))⟩, ⟨(some 7), none, (.f (.ld1 (.t 6)))⟩, ⟨(some 8), none, (.f (.len (.t 7)))⟩, ⟨(some 9), none, (.f (.bin .sub (.t 8) (.k (.int .i64 1))))⟩, ⟨(some 10), none, (.e (.call false F.impl_within [(.t 5), (.k (.int .i64 0)), (.t 9)]))⟩, ⟨(some 4), none, (.f (.mv (.t 10)))⟩]) .ret))
theorem k_impl_isTeam : compFn Tryz.prog [] F.impl_isTeam = some (c_impl_isTeam, [(.t 4)], 11) := by kernel_rfl

def c_impl_CountOutcomes : CC := (.seq (.ops [⟨(some 1), none, (.e (.box (.t 0)))⟩, ⟨(some 2), none, (.f (.mv (.k (.int .i64 0))))⟩]) (.seq (.seq (.ops [⟨(some 4), none, (.f (.ld 9 (.t 1)))⟩, ⟨(some 5), none, (.e (.call false F.impl_isShort [(.t 4)]))⟩, ⟨(some 6), none, (.f (.not (.t 5)))⟩]) (.cond (.t 6) (.seq (.ops [⟨(some 2), none, (.f (.mv (.k (.int .i64 0))))⟩]) .ret) .skip)) (.seq (.ops [⟨(some 3), none, (.f (.mv (.k (.int .i64 1))))⟩]) (.seq (.seq (.ops [⟨(some 7), none, (.f (.fa 6 (.t 1)))⟩, ⟨(some 8), none, (.f (.ld1 (.t 7)))⟩, ⟨(some 9), none, (.e (.call false F.impl_OpenGames [(.t 8)]))⟩, ⟨(some 10), none, (.f (.len (.t 9)))⟩, ⟨(some 11), none, (.f (.mv (.k (.int .i64 0))))⟩]) (.block 0 (.loop (.seq (.ops [⟨(some 12), none, (.f (.bin .lss (.t 11) (.t 10)))⟩]) (.seq (.cond (.t 12) .skip (.exit 0)) (.seq (.block 1 (.ops [⟨(some 13), none, (.f (.mv (.t 3)))⟩, ⟨(some 14), none, (.f (.bin .mul (.t 13) (.k (.int .i64 3))))⟩, ⟨(some 3), none, (.f (.mv (.t 14)))⟩])) (.ops [⟨(some 15), none, (.f (.bin .add (.t 11) (.k (.int .i64 1))))⟩, ⟨(some 11), none, (.f (.mv (.t 15)))⟩]))))))) (.seq (.ops [⟨(some 16), none, (.f (.mv (.t 3)))⟩, ⟨(some 2), none, (.f (.mv (.t 16)))⟩]) .ret)))))
theorem k_impl_CountOutcomes : compFn Tryz.prog [] F.impl_CountOutcomes = some (c_impl_CountOutcomes, [(.t 2)], 17) := by kernel_rfl

def c_impl_outcomeAt : CC := (.seq (.ops [⟨(some 4), none, (.f (.mv .nil))⟩]) (.seq (.ops [⟨(some 7), none, (.f (.mv (.t 0)))⟩, ⟨(some 8), none, (.e (.mk 1 8 [(.v (.int .i64 0))] (.t 7) (.t 7)))⟩, ⟨(some 5), none, (.f (.mv (.t 8)))⟩]) (.seq (.seq (.ops [⟨(some 9), none, (.f (.mv (.t 0)))⟩, ⟨(some 10), none, (.f (.bin .sub (.t 9) (.k (.int .i64 1))))⟩, ⟨(some 6), none, (.f (.mv (.t 10)))⟩]) (.block 0 (.loop (.seq (.seq (.ops [⟨(some 11), none, (.f (.mv (.t 6)))⟩, ⟨(some 12), none, (.f (.bin .geq (.t 11) (.k (.int .i64 0))))⟩]) (.cond (.t 12) .skip (.exit 0))) (.seq (.block 1 (.seq (.ops [⟨(some 15), none, (.f (.mv (.t 5)))⟩, ⟨(some 16), none, (.f (.mv (.t 6)))⟩, ⟨(some 17), none, (.f (.mv (.t 1)))⟩, ⟨(some 18), none, (.f (.bin .rem (.t 17) (.k (.int .i64 3))))⟩, ⟨(some 19), none, (.f (.bin .add (.t 18) (.k (.int .i64 1))))⟩, ⟨(some 20), none, (.f (.ia 1 (.t 15) (.t 16)))⟩, ⟨none, none, (.e (.st 1 (.t 20) (.t 19)))⟩]) (.ops [⟨(some 21), none, (.f (.mv (.t 1)))⟩, ⟨(some 22), none, (.f (.bin .quo (.t 21) (.k (.int .i64 3))))⟩, ⟨(some 1), none, (.f (.mv (.t 22)))⟩]))) (.ops [⟨(some 13), none, (.f (.mv (.t 6)))⟩, ⟨(some 14), none, (.f (.bin .sub (.t 13) (.k (.int .i64 1))))⟩, ⟨(some 6), none, (.f (.mv (.t 14)))⟩])))))) (.seq (.ops [⟨(some 23), none, (.f (.mv (.t 5)))⟩, ⟨(some 4), none, (.f (.mv (.t 23)))⟩]) .ret))))
theorem k_impl_outcomeAt : compFn Tryz.prog [] F.impl_outcomeAt = some (c_impl_outcomeAt, [(.t 4)], 24) := by kernel_rfl

def c_impl_OpenGames : CC := (.seq (.ops [⟨(some 2), none, (.f (.mv .nil))⟩]) (.seq (.ops [⟨(some 3), none, (.f (.mv (.t 0)))⟩, ⟨(some 4), none, (.e (.call false F.impl_gamesWhere [(.t 3), (.f F.impl_IsOpen)]))⟩, ⟨(some 2), none, (.f (.mv (.t 4)))⟩]) .ret))
theorem k_impl_OpenGames : compFn Tryz.prog [] F.impl_OpenGames = some (c_impl_OpenGames, [(.t 2)], 5) := by kernel_rfl

def c_impl_ranks : CC := (.seq (.ops [⟨(some 1), none, (.e (.box (.t 0)))⟩, ⟨(some 2), none, (.f (.mv .nil))⟩]) (.seq (.ops [⟨(some 9), none, (.f (.fa 0 (.t 1)))⟩, ⟨(some 10), none, (.f (.ld1 (.t 9)))⟩, ⟨(some 11), none, (.f (.len (.t 10)))⟩, ⟨(some 12), none, (.e (.mk 1 8 [(.v (.int .i64 0))] (.t 11) (.t 11)))⟩, ⟨(some 3), none, (.f (.mv (.t 12)))⟩, ⟨(some 4), none, (.f (.mv (.k (.int .i64 1))))⟩]) (.seq (.seq (.ops [⟨(some 13), none, (.f (.ld 9 (.t 1)))⟩, ⟨(some 15), none, (.f (.fa 0 (.t 1)))⟩, ⟨(some 16), none, (.f (.ld1 (.t 15)))⟩, ⟨(some 17), none, (.f (.len (.t 16)))⟩, ⟨(some 21), none, (.f (.mv (.k (.int .i64 0))))⟩, ⟨(some 14), none, (.e (.call true F.impl_rankerOf [(.t 13)]))⟩, ⟨(some 18), none, (.e (.call false F.impl_upTo [(.t 17)]))⟩, ⟨(some 19), none, (.e (.call false F.impl_ranker_rank [(.t 14), (.t 18), (.k (.int .i64 0))]))⟩, ⟨(some 20), none, (.f (.len (.t 19)))⟩]) (.block 0 (.loop (.seq (.ops [⟨(some 22), none, (.f (.bin .lss (.t 21) (.t 20)))⟩]) (.seq (.cond (.t 22) .skip (.exit 0)) (.seq (.block 1 (.seq (.ops [⟨(some 23), none, (.f (.ia 1 (.t 19) (.t 21)))⟩, ⟨(some 24), none, (.f (.ld1 (.t 23)))⟩, ⟨(some 6), none, (.f (.mv (.t 24)))⟩]) (.seq (.seq (.ops [⟨(some 25), none, (.f (.mv (.t 6)))⟩, ⟨(some 26), none, (.f (.len (.t 25)))⟩, ⟨(some 27), none, (.f (.mv (.k (.int .i64 0))))⟩]) (.block 2 (.loop (.seq (.ops [⟨(some 28), none, (.f (.bin .lss (.t 27) (.t 26)))⟩]) (.seq (.cond (.t 28) .skip (.exit 2)) (.seq (.block 3 (.seq (.ops [⟨(some 29), none, (.f (.ia 1 (.t 25) (.t 27)))⟩, ⟨(some 30), none, (.f (.ld1 (.t 29)))⟩, ⟨(some 8), none, (.f (.mv (.t 30)))⟩]) (.ops [⟨(some 31), none, (.f (.mv (.t 3)))⟩, ⟨(some 32), none, (.f (.mv (.t 8)))⟩, ⟨(some 33), none, (.f (.mv (.t 4)))⟩, ⟨(some 34), none, (.f (.ia 1 (.t 31) (.t 32)))⟩, ⟨none, none, (.e (.st 1 (.t 34) (.t 33)))⟩]))) (.ops [⟨(some 35), none, (.f (.bin .add (.t 27) (.k (.int .i64 1))))⟩, ⟨(some 27), none, (.f (.mv (.t 35)))⟩]))))))) (.ops [⟨(some 36), none, (.f (.mv (.t 4)))⟩, ⟨(some 37), none, (.f (.mv (.t 6)))⟩, ⟨(some 38), none, (.f (.len (.t 37)))⟩, ⟨(some 39), none, (.f (.bin .add (.t 36) (.t 38)))⟩, ⟨(some 4), none, (.f (.mv (.t 39)))⟩])))) (.ops [⟨(some 40), none, (.f (.bin .add (.t 21) (.k (.int .i64 1))))⟩, ⟨(some 21), none, (.f (.mv (.t 40)))⟩]))))))) (.seq (.ops [⟨(some 41), none, (.f (.mv (.t 3)))⟩, ⟨(some 2), none, (.f (.mv (.t 41)))⟩]) .ret))))
theorem k_impl_ranks : compFn Tryz.prog [] F.impl_ranks = some (c_impl_ranks, [(.t 2)], 42) := by kernel_rfl

def c_impl_played : CC := (.seq (.ops [⟨(some 2), none, (.e (.box (.t 0)))⟩, ⟨(some 4), none, (.e (.new [.nil, (.v (.int .i64 0)), (.v (.int .i64 0)), (.v (.int .i64 0)), .nil, (.v (.bool false)), .nil, .nil, .nil]))⟩]) (.seq (.ops [⟨(some 8), none, (.f (.ld 9 (.t 2)))⟩, ⟨(some 9), none, (.e (.call false F.impl_Book_copied [(.t 8)]))⟩, ⟨(some 5), none, (.e (.new [.nil, (.v (.int .i64 0)), (.v (.int .i64 0)), (.v (.int .i64 0)), .nil, (.v (.bool false)), .nil, .nil, .nil]))⟩, ⟨none, none, (.e (.st 9 (.t 5) (.t 9)))⟩]) (.seq (.seq (.ops [⟨(some 10), none, (.f (.fa 6 (.t 2)))⟩, ⟨(some 11), none, (.f (.ld1 (.t 10)))⟩, ⟨(some 12), none, (.e (.call false F.impl_OpenGames [(.t 11)]))⟩, ⟨(some 13), none, (.f (.len (.t 12)))⟩, ⟨(some 14), none, (.f (.mv (.k (.int .i64 0))))⟩]) (.block 0 (.loop (.seq (.ops [⟨(some 15), none, (.f (.bin .lss (.t 14) (.t 13)))⟩]) (.seq (.cond (.t 15) .skip (.exit 0)) (.seq (.block 1 (.seq (.ops [⟨(some 16), none, (.f (.mv (.t 14)))⟩, ⟨(some 17), none, (.f (.ia 1 (.t 12) (.t 14)))⟩, ⟨(some 18), none, (.f (.ld1 (.t 17)))⟩, ⟨(some 6), none, (.f (.mv (.t 16)))⟩, ⟨(some 7), none, (.f (.mv (.t 18)))⟩]) (.ops [⟨(some 19), none, (.f (.fa 6 (.t 5)))⟩, ⟨(some 20), none, (.f (.ld1 (.t 19)))⟩, ⟨(some 21), none, (.f (.mv (.t 7)))⟩, ⟨(some 22), none, (.f (.fa 6 (.t 5)))⟩, ⟨(some 23), none, (.f (.ld1 (.t 22)))⟩, ⟨(some 24), none, (.f (.mv (.t 7)))⟩, ⟨(some 25), none, (.f (.ia 5 (.t 23) (.t 24)))⟩, ⟨(some 26), none, (.f (.ld 5 (.t 25)))⟩, ⟨(some 27), none, (.f (.mv (.t 1)))⟩, ⟨(some 28), none, (.f (.mv (.t 6)))⟩, ⟨(some 29), none, (.f (.ia 1 (.t 27) (.t 28)))⟩, ⟨(some 30), none, (.f (.ld1 (.t 29)))⟩, ⟨(some 31), none, (.e (.call true F.impl_PlayGame [(.t 26), (.t 30)]))⟩, ⟨(some 32), none, (.f (.ia 5 (.t 20) (.t 21)))⟩, ⟨none, none, (.e (.st 5 (.t 32) (.t 31)))⟩]))) (.ops [⟨(some 33), none, (.f (.bin .add (.t 14) (.k (.int .i64 1))))⟩, ⟨(some 14), none, (.f (.mv (.t 33)))⟩]))))))) (.seq (.ops [⟨(some 34), none, (.f (.ld 9 (.t 5)))⟩, ⟨none, none, (.e (.st 9 (.t 4) (.t 34)))⟩]) .ret))))
theorem k_impl_played : compFn Tryz.prog [] F.impl_played = some (c_impl_played, [(.cl 9 4)], 35) := by kernel_rfl

def c_slices_IndexFunc_int : CC := (.seq (.ops [⟨(some 4), none, (.f (.mv (.k (.int .i64 0))))⟩]) (.seq (.seq (.ops [⟨(some 6), none, (.f (.mv (.t 0)))⟩, ⟨(some 7), none, (.f (.len (.t 6)))⟩, ⟨(some 8), none, (.f (.mv (.k (.int .i64 0))))⟩]) (.block 0 (.loop (.seq (.ops [⟨(some 9), none, (.f (.bin .lss (.t 8) (.t 7)))⟩]) (.seq (.cond (.t 9) .skip (.exit 0)) (.seq (.block 1 (.seq (.ops [⟨(some 10), none, (.f (.mv (.t 8)))⟩, ⟨(some 5), none, (.f (.mv (.t 10)))⟩]) (.seq (.ops [⟨(some 11), none, (.f (.mv (.t 1)))⟩, ⟨(some 12), none, (.f (.mv (.t 0)))⟩, ⟨(some 13), none, (.f (.mv (.t 5)))⟩, ⟨(some 14), none, (.f (.ia 1 (.t 12) (.t 13)))⟩, ⟨(some 15), none, (.f (.ld1 (.t 14)))⟩, ⟨(some 16), none, (.e (.callv false (.t 11) [(.t 15)]))⟩]) (.cond (.t 16) (.seq (.ops [⟨(some 17), none, (.f (.mv (.t 5)))⟩, ⟨(some 4), none, (.f (.mv (.t 17)))⟩]) .ret) .skip)))) (.ops [⟨(some 18), none, (.f (.bin .add (.t 8) (.k (.int .i64 1))))⟩, ⟨(some 8), none, (.f (.mv (.t 18)))⟩]))))))) (.seq (.ops [⟨(some 4), none, (.f (.mv (.k (.int .i64 (-1)))))⟩]) .ret)))
theorem k_slices_IndexFunc_int : compFn Tryz.prog [] F.slices_IndexFunc_int = some (c_slices_IndexFunc_int, [(.t 4)], 19) := by kernel_rfl

def c_spec_FieldOk : CC := (.seq (.ops [⟨(some 2), none, (.f (.mv (.k (.bool false))))⟩]) (.seq (.seq (.ops [⟨(some 7), none, (.f (.mv (.t 0)))⟩, ⟨(some 8), none, (.f (.len (.t 7)))⟩, ⟨(some 9), none, (.e (.call false F.spec_l01In [(.t 8), (.k (.int .i64 2)), (.k (.int .i64 8))]))⟩, ⟨(some 10), none, (.f (.not (.t 9)))⟩]) (.cond (.t 10) (.seq (.ops [⟨(some 2), none, (.f (.mv (.k (.bool false))))⟩]) .ret) .skip)) (.seq (.seq (.ops [⟨(some 11), none, (.f (.mv (.t 0)))⟩, ⟨(some 12), none, (.f (.len (.t 11)))⟩, ⟨(some 13), none, (.f (.mv (.k (.int .i64 0))))⟩]) (.block 0 (.loop (.seq (.ops [⟨(some 14), none, (.f (.bin .lss (.t 13) (.t 12)))⟩]) (.seq (.cond (.t 14) .skip (.exit 0)) (.seq (.block 1 (.seq (.ops [⟨(some 15), none, (.f (.mv (.t 13)))⟩, ⟨(some 16), none, (.f (.ia 3 (.t 11) (.t 13)))⟩, ⟨(some 17), none, (.f (.ld 3 (.t 16)))⟩, ⟨(some 4), none, (.e (.new [(.v (.str [])), (.v (.int .i64 0)), (.v (.int .i64 0))]))⟩, ⟨(some 3), none, (.f (.mv (.t 15)))⟩, ⟨none, none, (.e (.st 3 (.t 4) (.t 17)))⟩]) (.seq (.seq (.ops [⟨(some 18), none, (.f (.ld 3 (.t 4)))⟩, ⟨(some 19), none, (.e (.call false F.spec_TeamOk [(.t 18)]))⟩, ⟨(some 20), none, (.f (.not (.t 19)))⟩]) (.cond (.t 20) (.seq (.ops [⟨(some 2), none, (.f (.mv (.k (.bool false))))⟩]) .ret) .skip)) (.seq (.ops [⟨(some 21), none, (.f (.mv (.t 0)))⟩, ⟨(some 22), none, (.f (.mv (.t 3)))⟩, ⟨(some 23), none, (.f (.sls 3 (.t 21) none (some (.t 22))))⟩, ⟨(some 24), none, (.f (.len (.t 23)))⟩, ⟨(some 25), none, (.f (.mv (.k (.int .i64 0))))⟩]) (.block 2 (.loop (.seq (.ops [⟨(some 26), none, (.f (.bin .lss (.t 25) (.t 24)))⟩]) (.seq (.cond (.t 26) .skip (.exit 2)) (.seq (.block 3 (.seq (.ops [⟨(some 27), none, (.f (.ia 3 (.t 23) (.t 25)))⟩, ⟨(some 28), none, (.f (.ld 3 (.t 27)))⟩, ⟨(some 6), none, (.e (.new [(.v (.str [])), (.v (.int .i64 0)), (.v (.int .i64 0))]))⟩, ⟨none, none, (.e (.st 3 (.t 6) (.t 28)))⟩]) (.seq (.ops [⟨(some 29), none, (.f (.fa 0 (.t 6)))⟩, ⟨(some 30), none, (.f (.ld1 (.t 29)))⟩, ⟨(some 31), none, (.f (.fa 0 (.t 4)))⟩, ⟨(some 32), none, (.f (.ld1 (.t 31)))⟩, ⟨(some 33), none, (.f (.bin .eql (.t 30) (.t 32)))⟩, ⟨(some 34), none, (.f (.mv (.t 33)))⟩, ⟨(some 35), (some (34, false)), (.f (.fa 2 (.t 6)))⟩, ⟨(some 36), (some (34, false)), (.f (.ld1 (.t 35)))⟩, ⟨(some 37), (some (34, false)), (.f (.fa 2 (.t 4)))⟩, ⟨(some 38), (some (34, false)), (.f (.ld1 (.t 37)))⟩, ⟨(some 39), (some (34, false)), (.f (.bin .eql (.t 36) (.t 38)))⟩, ⟨(some 40), none, (.f (.pick (.t 34) (.k (.bool true)) (.t 39)))⟩]) (.cond (.t 40) (.seq (.ops [⟨(some 2), none, (.f (.mv (.k (.bool false))))⟩]) .ret) .skip)))) (.ops [⟨(some 41), none, (.f (.bin .add (.t 25) (.k (.int .i64 1))))⟩, ⟨(some 25), none, (.f (.mv (.t 41)))⟩])))))))))) (.ops [⟨(some 42), none, (.f (.bin .add (.t 13) (.k (.int .i64 1))))⟩, ⟨(some 13), none, (.f (.mv (.t 42)))⟩]))))))) (.seq (.ops [⟨(some 2), none, (.f (.mv (.k (.bool true))))⟩]) .ret))))
theorem k_spec_FieldOk : compFn Tryz.prog [] F.spec_FieldOk = some (c_spec_FieldOk, [(.t 2)], 43) := by kernel_rfl

def c_spec_SeasonOk : CC := (.seq (.ops [⟨(some 4), none, (.f (.mv (.k (.bool false))))⟩]) (.seq (.seq (.ops [⟨(some 7), none, (.f (.mv (.t 1)))⟩, ⟨(some 8), none, (.f (.len (.t 7)))⟩, ⟨(some 9), none, (.f (.bin .gtr (.t 8) (.k (.int .i64 60))))⟩]) (.cond (.t 9) (.seq (.ops [⟨(some 4), none, (.f (.mv (.k (.bool false))))⟩]) .ret) .skip)) (.seq (.seq (.ops [⟨(some 10), none, (.f (.mv (.t 1)))⟩, ⟨(some 11), none, (.f (.len (.t 10)))⟩, ⟨(some 12), none, (.f (.mv (.k (.int .i64 0))))⟩]) (.block 0 (.loop (.seq (.ops [⟨(some 13), none, (.f (.bin .lss (.t 12) (.t 11)))⟩]) (.seq (.cond (.t 13) .skip (.exit 0)) (.seq (.block 1 (.seq (.ops [⟨(some 14), none, (.f (.mv (.t 12)))⟩, ⟨(some 15), none, (.f (.ia 5 (.t 10) (.t 12)))⟩, ⟨(some 16), none, (.f (.ld 5 (.t 15)))⟩, ⟨(some 6), none, (.e (.new [(.v (.int .i64 0)), (.v (.int .i64 0)), (.v (.int .i64 0)), (.v (.int .i64 0)), (.v (.int .i64 0))]))⟩, ⟨(some 5), none, (.f (.mv (.t 14)))⟩, ⟨none, none, (.e (.st 5 (.t 6) (.t 16)))⟩]) (.seq (.ops [⟨(some 17), none, (.f (.mv (.t 0)))⟩, ⟨(some 18), none, (.f (.ld 5 (.t 6)))⟩, ⟨(some 19), none, (.e (.call false F.spec_GameOk [(.t 17), (.t 18)]))⟩, ⟨(some 20), none, (.f (.not (.t 19)))⟩, ⟨(some 21), none, (.f (.mv (.t 20)))⟩, ⟨(some 22), (some (21, false)), (.f (.mv (.t 1)))⟩, ⟨(some 23), (some (21, false)), (.f (.fa 0 (.t 6)))⟩, ⟨(some 24), (some (21, false)), (.f (.ld1 (.t 23)))⟩, ⟨(some 25), (some (21, false)), (.f (.fa 1 (.t 6)))⟩, ⟨(some 26), (some (21, false)), (.f (.ld1 (.t 25)))⟩, ⟨(some 27), (some (21, false)), (.e (.call false F.spec_GameOf [(.t 22), (.t 24), (.t 26)]))⟩, ⟨(some 28), (some (21, false)), (.f (.mv (.t 5)))⟩, ⟨(some 29), (some (21, false)), (.f (.bin .neq (.t 27) (.t 28)))⟩, ⟨(some 30), none, (.f (.pick (.t 21) (.k (.bool true)) (.t 29)))⟩]) (.cond (.t 30) (.seq (.ops [⟨(some 4), none, (.f (.mv (.k (.bool false))))⟩]) .ret) .skip)))) (.ops [⟨(some 31), none, (.f (.bin .add (.t 12) (.k (.int .i64 1))))⟩, ⟨(some 12), none, (.f (.mv (.t 31)))⟩]))))))) (.seq (.ops [⟨(some 4), none, (.f (.mv (.k (.bool true))))⟩]) .ret))))
theorem k_spec_SeasonOk : compFn Tryz.prog [] F.spec_SeasonOk = some (c_spec_SeasonOk, [(.t 4)], 32) := by kernel_rfl

def c_spec_RankFrom : CC := (.seq (.ops [⟨(some 3), none, (.e (.box (.t 0)))⟩, ⟨(some 6), none, (.f (.mv .nil))⟩]) (.seq (.seq (.ops [⟨(some 9), none, (.f (.ld 9 (.t 3)))⟩, ⟨(some 10), none, (.e (.call false F.spec_BookOk [(.t 9)]))⟩, ⟨(some 11), none, (.f (.not (.t 10)))⟩, ⟨(some 12), none, (.f (.mv (.t 11)))⟩, ⟨(some 13), (some (12, false)), (.f (.ld 9 (.t 3)))⟩, ⟨(some 14), (some (12, false)), (.f (.mv (.t 1)))⟩, ⟨(some 15), (some (12, false)), (.e (.call false F.spec_l07Teams [(.t 13), (.t 14)]))⟩, ⟨(some 16), (some (12, false)), (.f (.not (.t 15)))⟩, ⟨(some 17), none, (.f (.pick (.t 12) (.k (.bool true)) (.t 16)))⟩, ⟨(some 18), none, (.f (.mv (.t 17)))⟩, ⟨(some 19), (some (18, false)), (.f (.mv (.t 2)))⟩, ⟨(some 20), (some (18, false)), (.f (.bin .lss (.t 19) (.k (.int .i64 0))))⟩, ⟨(some 21), none, (.f (.pick (.t 18) (.k (.bool true)) (.t 20)))⟩]) (.cond (.t 21) (.seq (.ops [⟨(some 6), none, (.f (.mv .nil))⟩]) .ret) .skip)) (.seq (.seq (.ops [⟨(some 22), none, (.f (.mv (.t 1)))⟩, ⟨(some 23), none, (.f (.len (.t 22)))⟩, ⟨(some 24), none, (.f (.mv (.k (.int .i64 0))))⟩]) (.block 0 (.loop (.seq (.ops [⟨(some 25), none, (.f (.bin .lss (.t 24) (.t 23)))⟩]) (.seq (.cond (.t 25) .skip (.exit 0)) (.seq (.block 1 (.seq (.ops [⟨(some 26), none, (.f (.mv (.t 24)))⟩, ⟨(some 27), none, (.f (.ia 1 (.t 22) (.t 24)))⟩, ⟨(some 28), none, (.f (.ld1 (.t 27)))⟩, ⟨(some 7), none, (.f (.mv (.t 26)))⟩, ⟨(some 8), none, (.f (.mv (.t 28)))⟩]) (.seq (.ops [⟨(some 29), none, (.f (.mv (.t 1)))⟩, ⟨(some 30), none, (.f (.mv (.t 7)))⟩, ⟨(some 31), none, (.f (.sls 1 (.t 29) none (some (.t 30))))⟩, ⟨(some 32), none, (.f (.mv (.t 8)))⟩, ⟨(some 33), none, (.e (.call false F.spec_l02Has [(.t 31), (.t 32)]))⟩]) (.cond (.t 33) (.seq (.ops [⟨(some 6), none, (.f (.mv .nil))⟩]) .ret) .skip)))) (.ops [⟨(some 34), none, (.f (.bin .add (.t 24) (.k (.int .i64 1))))⟩, ⟨(some 24), none, (.f (.mv (.t 34)))⟩]))))))) (.seq (.ops [⟨(some 35), none, (.f (.ld 9 (.t 3)))⟩, ⟨(some 36), none, (.f (.mv (.t 1)))⟩, ⟨(some 37), none, (.f (.mv (.t 2)))⟩, ⟨(some 38), none, (.e (.call false F.spec_l07Rank [(.t 35), (.t 36), (.t 37)]))⟩, ⟨(some 6), none, (.f (.mv (.t 38)))⟩]) .ret))))
theorem k_spec_RankFrom : compFn Tryz.prog [] F.spec_RankFrom = some (c_spec_RankFrom, [(.t 6)], 39) := by kernel_rfl

def c_spec_l07All : CC := (.seq (.ops [⟨(some 1), none, (.e (.box (.t 0)))⟩, ⟨(some 2), none, (.f (.mv .nil))⟩]) (.seq (.ops [⟨(some 5), none, (.e (.mks 1 0 [(.v (.int .i64 0))] []))⟩, ⟨(some 3), none, (.f (.mv (.t 5)))⟩]) (.seq (.seq (.ops [⟨(some 6), none, (.f (.fa 0 (.t 1)))⟩, ⟨(some 7), none, (.f (.ld1 (.t 6)))⟩, ⟨(some 8), none, (.f (.len (.t 7)))⟩, ⟨(some 9), none, (.f (.mv (.k (.int .i64 0))))⟩]) (.block 0 (.loop (.seq (.ops [⟨(some 10), none, (.f (.bin .lss (.t 9) (.t 8)))⟩]) (.seq (.cond (.t 10) .skip (.exit 0)) (.seq (.block 1 (.seq (.ops [⟨(some 11), none, (.f (.mv (.t 9)))⟩, ⟨(some 4), none, (.f (.mv (.t 11)))⟩]) (.ops [⟨(some 12), none, (.f (.mv (.t 3)))⟩, ⟨(some 13), none, (.f (.mv (.t 4)))⟩, ⟨(some 14), none, (.e (.mks 1 1 [(.v (.int .i64 0))] [(0, (1, (.t 13)))]))⟩, ⟨(some 15), none, (.e (.app 1 8 (.t 12) (.t 14)))⟩, ⟨(some 3), none, (.f (.mv (.t 15)))⟩]))) (.ops [⟨(some 16), none, (.f (.bin .add (.t 9) (.k (.int .i64 1))))⟩, ⟨(some 9), none, (.f (.mv (.t 16)))⟩]))))))) (.seq (.ops [⟨(some 17), none, (.f (.mv (.t 3)))⟩, ⟨(some 2), none, (.f (.mv (.t 17)))⟩]) .ret))))
theorem k_spec_l07All : compFn Tryz.prog [] F.spec_l07All = some (c_spec_l07All, [(.t 2)], 18) := by kernel_rfl

def c_impl_FieldOk : CC := (.seq (.ops [⟨(some 2), none, (.f (.mv (.k (.bool false))))⟩]) (.seq (.seq (.ops [⟨(some 5), none, (.f (.mv (.t 0)))⟩, ⟨(some 6), none, (.f (.len (.t 5)))⟩, ⟨(some 7), none, (.f (.mv (.k (.int .i64 0))))⟩]) (.block 0 (.loop (.seq (.ops [⟨(some 8), none, (.f (.bin .lss (.t 7) (.t 6)))⟩]) (.seq (.cond (.t 8) .skip (.exit 0)) (.seq (.block 1 (.seq (.ops [⟨(some 9), none, (.f (.mv (.t 7)))⟩, ⟨(some 10), none, (.f (.ia 3 (.t 5) (.t 7)))⟩, ⟨(some 11), none, (.f (.ld 3 (.t 10)))⟩, ⟨(some 4), none, (.e (.new [(.v (.str [])), (.v (.int .i64 0)), (.v (.int .i64 0))]))⟩, ⟨(some 3), none, (.f (.mv (.t 9)))⟩, ⟨none, none, (.e (.st 3 (.t 4) (.t 11)))⟩]) (.seq (.ops [⟨(some 12), none, (.f (.ld 3 (.t 4)))⟩, ⟨(some 13), none, (.e (.call false F.impl_TeamOk [(.t 12)]))⟩, ⟨(some 14), none, (.f (.not (.t 13)))⟩, ⟨(some 15), none, (.f (.mv (.t 14)))⟩, ⟨(some 16), (some (15, false)), (.f (.mv (.t 0)))⟩, ⟨(some 17), (some (15, false)), (.f (.mv (.t 3)))⟩, ⟨(some 18), (some (15, false)), (.f (.sls 3 (.t 16) none (some (.t 17))))⟩, ⟨(some 19), (some (15, false)), (.f (.mkfn F.impl_FieldOk_c1 [(.t 4)]))⟩, ⟨(some 20), (some (15, false)), (.e (.call false F.slices_ContainsFunc_Team [(.t 18), (.t 19)]))⟩, ⟨(some 21), none, (.f (.pick (.t 15) (.k (.bool true)) (.t 20)))⟩]) (.cond (.t 21) (.seq (.ops [⟨(some 2), none, (.f (.mv (.k (.bool false))))⟩]) .ret) .skip)))) (.ops [⟨(some 22), none, (.f (.bin .add (.t 7) (.k (.int .i64 1))))⟩, ⟨(some 7), none, (.f (.mv (.t 22)))⟩]))))))) (.seq (.ops [⟨(some 23), none, (.f (.mv (.t 0)))⟩, ⟨(some 24), none, (.f (.len (.t 23)))⟩, ⟨(some 25), none, (.e (.call false F.impl_within [(.t 24), (.k (.int .i64 2)), (.k (.int .i64 8))]))⟩, ⟨(some 2), none, (.f (.mv (.t 25)))⟩]) .ret)))
theorem k_impl_FieldOk : compFn Tryz.prog [] F.impl_FieldOk = some (c_impl_FieldOk, [(.t 2)], 26) := by kernel_rfl

def c_impl_SeasonOk : CC := (.seq (.ops [⟨(some 4), none, (.f (.mv (.k (.bool false))))⟩]) (.seq (.seq (.ops [⟨(some 7), none, (.f (.mv (.t 1)))⟩, ⟨(some 8), none, (.f (.len (.t 7)))⟩, ⟨(some 9), none, (.f (.mv (.k (.int .i64 0))))⟩]) (.block 0 (.loop (.seq (.ops [⟨(some 10), none, (.f (.bin .lss (.t 9) (.t 8)))⟩]) (.seq (.cond (.t 10) .skip (.exit 0)) (.seq (.block 1 (.seq (.ops [⟨(some 11), none, (.f (.mv (.t 9)))⟩, ⟨(some 12), none, (.f (.ia 5 (.t 7) (.t 9)))⟩, ⟨(some 13), none, (.f (.ld 5 (.t 12)))⟩, ⟨(some 6), none, (.e (.new [(.v (.int .i64 0)), (.v (.int .i64 0)), (.v (.int .i64 0)), (.v (.int .i64 0)), (.v (.int .i64 0))]))⟩, ⟨(some 5), none, (.f (.mv (.t 11)))⟩, ⟨none, none, (.e (.st 5 (.t 6) (.t 13)))⟩]) (.seq (.ops [⟨(some 14), none, (.f (.mv (.t 0)))⟩, ⟨(some 15), none, (.f (.ld 5 (.t 6)))⟩, ⟨(some 16), none, (.e (.call false F.impl_GameOk [(.t 14), (.t 15)]))⟩, ⟨(some 17), none, (.f (.not (.t 16)))⟩, ⟨(some 18), none, (.f (.mv (.t 17)))⟩, ⟨(some 19), (some (18, false)), (.f (.mv (.t 1)))⟩, ⟨(some 20), (some (18, false)), (.f (.mv (.t 5)))⟩, ⟨(some 21), (some (18, false)), (.f (.sls 5 (.t 19) none (some (.t 20))))⟩, ⟨(some 22), (some (18, false)), (.f (.fa 0 (.t 6)))⟩, ⟨(some 23), (some (18, false)), (.f (.ld1 (.t 22)))⟩, ⟨(some 24), (some (18, false)), (.f (.fa 1 (.t 6)))⟩, ⟨(some 25), (some (18, false)), (.f (.ld1 (.t 24)))⟩, ⟨(some 26), (some (18, false)), (.e (.call false F.impl_GameOf [(.t 21), (.t 23), (.t 25)]))⟩, ⟨(some 27), (some (18, false)), (.f (.bin .geq (.t 26) (.k (.int .i64 0))))⟩, ⟨(some 28), none, (.f (.pick (.t 18) (.k (.bool true)) (.t 27)))⟩]) (.cond (.t 28) (.seq (.ops [⟨(some 4), none, (.f (.mv (.k (.bool false))))⟩]) .ret) .skip)))) (.ops [⟨(some 29), none, (.f (.bin .add (.t 9) (.k (.int .i64 1))))⟩, ⟨(some 9), none, (.f (.mv (.t 29)))⟩]))))))) (.seq (.ops [⟨(some 30), none, (.f (.mv (.t 1)))⟩, ⟨(some 31), none, (.f (.len (.t 30)))⟩, ⟨(some 32), none, (.f (.bin .leq (.t 31) (.k (.int .i64 60))))⟩, ⟨(some 4), none, (.f (.mv (.t 32)))⟩]) .ret)))
theorem k_impl_SeasonOk : compFn Tryz.prog [] F.impl_SeasonOk = some (c_impl_SeasonOk, [(.t 4)], 33) := by kernel_rfl

def c_impl_arePenalties : CC := (.seq (.ops [⟨(some 4), none, (.f (.mv (.k (.bool false))))⟩]) (.seq (.ops [⟨(some 5), none, (.f (.mv (.t 0)))⟩, ⟨(some 6), none, (.f (.len (.t 5)))⟩, ⟨(some 7), none, (.f (.mv (.t 1)))⟩, ⟨(some 8), none, (.f (.bin .eql (.t 6) (.t 7)))⟩, ⟨(some 9), none, (.f (.mv (.t 8)))⟩, ⟨(some 10), (some (9, true)), (.f (.mv (.t 0)))⟩, ⟨(some 11), (some (9, true)), (.e (.call false F.slices_ContainsFunc_int [(.t 10), (.f F.impl_arePenalties_c1)]))⟩, ⟨(some 12), (some (9, true)), (.f (.not (.t 11)))⟩, ⟨(some 13), none, (.f (.pick (.t 9) (.t 12) (.k (.bool false))))⟩, ⟨(some 4), none, (.f (.mv (.t 13)))⟩]) .ret))
theorem k_impl_arePenalties : compFn Tryz.prog [] F.impl_arePenalties = some (c_impl_arePenalties, [(.t 4)], 14) := by kernel_rfl

def c_slices_Clone_Team : CC := (.seq (.ops [⟨(some 2), none, (.f (.mv .nil))⟩]) (.seq (.seq (.ops [⟨(some 3), none, (.f (.mv (.t 0)))⟩, ⟨(some 4), none, (.f (.isnil false (.t 3)))⟩]) (.cond (.t 4) (.seq (.ops [⟨(some 2), none, (.f (.mv .nil))⟩]) .ret) .skip)) (.seq (.ops [⟨(some 5), none, (.e (.mks 3 0 [(.v (.str [])), (.v (.int .i64 0)), (.v (.int .i64 0))] []))⟩, ⟨(some 6), none, (.f (.mv (.t 0)))⟩, ⟨(some 7), none, (.e (.app 3 32 (.t 5) (.t 6)))⟩, ⟨(some 2), none, (.f (.mv (.t 7)))⟩]) .ret)))
theorem k_slices_Clone_Team : compFn Tryz.prog [] F.slices_Clone_Team = some (c_slices_Clone_Team, [(.t 2)], 8) := by kernel_rfl

def c_slices_Clone_Game : CC := (.seq (.ops [⟨(some 2), none, (.f (.mv .nil))⟩]) (.seq (.seq (.ops [⟨(some 3), none, (.f (.mv (.t 0)))⟩, ⟨(some 4), none, (.f (.isnil false (.t 3)))⟩]) (.cond (.t 4) (.seq (.ops [⟨(some 2), none, (.f (.mv .nil))⟩]) .ret) .skip)) (.seq (.ops [⟨(some 5), none, (.e (.mks 5 0 [(.v (.int .i64 0)), (.v (.int .i64 0)), (.v (.int .i64 0)), (.v (.int .i64 0)), (.v (.int .i64 0))] []))⟩, ⟨(some 6), none, (.f (.mv (.t 0)))⟩, ⟨(some 7), none, (.e (.app 5 40 (.t 5) (.t 6)))⟩, ⟨(some 2), none, (.f (.mv (.t 7)))⟩]) .ret)))
theorem k_slices_Clone_Game : compFn Tryz.prog [] F.slices_Clone_Game = some (c_slices_Clone_Game, [(.t 2)], 8) := by kernel_rfl

end Go.Proofs.YtneiicadhjdbiaaGreat.Ab
