/- The abstract values of a small machine for Go functions, how a value of the model reads as one, and when that stays true. The operations of the small machine that change no memory, how they come out of the model's, and that they answer alike. The operations of the small machine that change no memory: their compact form, and that the model answers as they do. Each operation that changes no memory: what the small machine says of it, the model's run of it does, now and in every later memory that has only grown. The rest of the operations that change no memory, and all of them together. Each operation that changes no memory answers as the small machine says. All operations that change no memory: the model answers as the small machine does. Memory that is made, written, grown: what stays of it, as the small machine sees it. What a function does, and the operations that make, write or grow memory or call. append, make, a composite slice, a store, a call: each does what the small machine says. All operations with an effect: each does what the small machine says. One operation of a region, whatever it is: it does what the small machine says. A region: one operation after the other; and where Go leaves the order open, any order. The code of a function in its compact form; what a function does, out of what its code does. A function's contract out of its code; how a contract is used at a call. A state of the small machine seen with less: names dropped or renamed, slices frozen. -/
import Derived.Orders
import Derived.Laws.Sem
import Derived.Laws.World
import Derived.KernelRfl
import Derived.Laws.Cells
import Derived.Laws.Slices
import Derived.Laws.Strings
import Derived.Laws.Strings2
import Derived.ChangeKeysEq
import Derived.Laws.Small
import Derived.Laws.Cover3
import Derived.Laws.BytesString
import Derived.Laws.CopyRow
import Derived.Laws.AppendOwn
import Derived.OrdersHeld
import Derived.Deep.LoopGhost
set_option linter.unusedVariables false
set_option linter.unusedSimpArgs false

namespace Go.Proofs.YtneiicadhjdbiaaGreat.Ab
open Go

/-- Pure data. 'ro': a slice that nobody writes, by its elements, each a row of cells. -/
inductive V where
  | int (k : IntKind) (n : Int)
  | bool (b : Bool)
  | str (s : List UInt8)
  | ro (sz : Nat) (es : List (List V))

inductive C where
  | v (x : V)
  | nil
  | sl (sz id off len : Nat)
  | ptr (id off : Nat)
  | rptr (cs : List V)
  | nptr
  | fn (f : Nat) (caps : List (Nat × Nat))
  | any

inductive T where
  | c (x : C)
  | agg (cs : List C)

inductive D where
  | t (x : T)
  | tup (xs : List T)
  | und
  | any

inductive Blk where
  | cells (cs : List C)
  | hole

/-- Which block a name stands for; 'some none': a name for a slice without room. -/
abbrev Sg := Nat → Option (Option (Nat × Nat))

inductive RepV (L : Nat → Prop) (w : World) : Value → V → Prop
  | int (k n) : RepV L w (.int k n) (.int k n)
  | bool (b) : RepV L w (.bool b) (.bool b)
  | str (s : List UInt8) : RepV L w (.string ⟨s.toArray⟩) (.str s)
  | ro (b off n cap sz es) (val : Nat → Nat → Value) (hl : es.length = n) (hn : n ≤ cap) (hb : b < w.heap.size) (hL : ¬ L b)
      (hsz : ∀ (i : Nat) (c : List V), es[i]? = some c → c.length = sz)
      (hc : ∀ (i : Nat) (c : List V), es[i]? = some c → ∀ (j : Nat) (x : V), c[j]? = some x → w.cell? ⟨b, off + i * sz + j, none⟩ = some (val i j))
      (hv : ∀ (i : Nat) (c : List V), es[i]? = some c → ∀ (j : Nat) (x : V), c[j]? = some x → RepV L w (val i j) x) : RepV L w (.slice (some ⟨b, off, none⟩) n cap) (.ro sz es)
  | roE (A cap sz) : RepV L w (.slice A 0 cap) (.ro sz [])

def RepC (σ : Sg) (L : Nat → Prop) (w : World) (v : Value) : C → Prop
  | .v x => RepV L w v x
  | .nil => ∃ A, v = .slice A 0 0
  | .sl sz id off len => (σ id ≠ none ∧ len = 0 ∧ ∃ A, v = .slice A 0 0) ∨ ∃ b N cap, σ id = some (some (b, N)) ∧ v = .slice (some ⟨b, off, none⟩) len cap ∧ len ≤ cap ∧ off + cap * sz ≤ N
  | .ptr id off => ∃ b N, σ id = some (some (b, N)) ∧ v = .pointer (some ⟨b, off, none⟩)
  | .rptr cs => ∃ b off, ∃ val : Nat → Value, v = .pointer (some ⟨b, off, none⟩) ∧ b < w.heap.size ∧ ¬ L b ∧ ∀ (j : Nat) (x : V), cs[j]? = some x → w.cell? ⟨b, off + j, none⟩ = some (val j) ∧ RepV L w (val j) x
  | .nptr => v = .pointer none
  | .fn f caps => ∃ vs : Array Value, v = .func (.func f) #[] vs ∧ vs.size = caps.length ∧ ∀ (i : Nat) (p : Nat × Nat), caps[i]? = some p → ∃ b N, σ p.1 = some (some (b, N)) ∧ vs[i]? = some (.pointer (some ⟨b, p.2, none⟩))
  | .any => v.oneCell' = true

def RepCs (σ : Sg) (L : Nat → Prop) (w : World) (vs : List Value) (cs : List C) : Prop :=
  vs.length = cs.length ∧ ∀ (i : Nat) (x : C), cs[i]? = some x → ∃ u, vs[i]? = some u ∧ RepC σ L w u x

def RepT (σ : Sg) (L : Nat → Prop) (w : World) (v : Value) : T → Prop
  | .c x => RepC σ L w v x
  | .agg cs => ∃ vs : List Value, v = .agg vs.toArray ∧ RepCs σ L w vs cs

def RepD (σ : Sg) (L : Nat → Prop) (w : World) (v : Value) : D → Prop
  | .t x => RepT σ L w v x
  | .tup xs => ∃ vs : List Value, v = .tuple vs.toArray ∧ vs.length = xs.length ∧ ∀ (i : Nat) (x : T), xs[i]? = some x → ∃ u, vs[i]? = some u ∧ RepT σ L w u x
  | .und => v = undef
  | .any => True

def Own (σ : Sg) (mem : List Blk) (b : Nat) : Prop := ∃ id cs N, mem[id]? = some (.cells cs) ∧ σ id = some (some (b, N))
def Lv (X : Nat → Prop) (σ : Sg) (mem : List Blk) (b : Nat) : Prop := X b ∨ Own σ mem b

def Bk (σ : Sg) (L : Nat → Prop) (w : World) (b N : Nat) (cs : List C) : Prop :=
  ∃ (c : Array Value) (e : TypeId), w.heap[b]? = some (.cells c e (0, 0)) ∧ c.size = N ∧ cs.length ≤ N ∧ ∀ (j : Nat) (x : C), cs[j]? = some x → ∃ v, c[j]? = some v ∧ RepC σ L w v x

structure MemOk (X : Nat → Prop) (σ : Sg) (mem : List Blk) (w : World) : Prop where
  blk : ∀ id cs, mem[id]? = some (.cells cs) → (σ id = some none ∧ cs = []) ∨ ∃ b N, σ id = some (some (b, N)) ∧ Bk σ (Lv X σ mem) w b N cs
  inj : ∀ id id' b N N' cs cs', mem[id]? = some (.cells cs) → mem[id']? = some (.cells cs') → σ id = some (some (b, N)) → σ id' = some (some (b, N')) → id = id'
  far : ∀ b, X b → b < w.heap.size ∧ ¬ Own σ mem b
  out : ∀ id, mem.length ≤ id → σ id = none

/-- From one state of memory to a later one: what is neither owned nor new has not turned; the first n names mean what they meant. -/
structure Tr (n : Nat) (σ : Sg) (mem : List Blk) (w : World) (σ' : Sg) (mem' : List Blk) (w' : World) : Prop where
  ext : ∀ id, id < n → σ' id = σ id
  os : w'.os = w.os
  tape : w'.tape = w.tape
  output : w'.output = w.output
  size : w.heap.size ≤ w'.heap.size
  keep : ∀ b, b < w.heap.size → ¬ Own σ mem b → w'.heap[b]? = w.heap[b]?
  own : ∀ b, Own σ' mem' b → Own σ mem b ∨ w.heap.size ≤ b

theorem Tr.refl (n : Nat) (σ : Sg) (mem : List Blk) (w : World) : Tr n σ mem w σ mem w :=
  ⟨fun _ _ => rfl, rfl, rfl, rfl, Nat.le_refl _, fun _ _ _ => rfl, fun _ h => .inl h⟩

theorem Tr.trans {n m : Nat} {σ σ' σ'' : Sg} {mem mem' mem'' : List Blk} {w w' w'' : World} (h : Tr n σ mem w σ' mem' w') (k : Tr m σ' mem' w' σ'' mem'' w'') (hnm : n ≤ m) : Tr n σ mem w σ'' mem'' w'' := by
  refine ⟨fun id hi => (k.ext id (by omega)).trans (h.ext id hi), k.os.trans h.os, k.tape.trans h.tape, k.output.trans h.output, Nat.le_trans h.size k.size, fun b hb ho => ?_, fun b ho => ?_⟩
  · refine (k.keep b (Nat.lt_of_lt_of_le hb h.size) fun ho' => ?_).trans (h.keep b hb ho)
    rcases h.own b ho' with h1 | h1
    · exact ho h1
    · omega
  · rcases k.own b ho with h1 | h1
    · exact h.own b h1
    · exact .inr (Nat.le_trans h.size h1)

theorem Tr.mono {n m : Nat} {σ σ' : Sg} {mem mem' : List Blk} {w w' : World} (h : Tr n σ mem w σ' mem' w') (hm : m ≤ n) : Tr m σ mem w σ' mem' w' :=
  { h with ext := fun id hi => h.ext id (by omega) }

theorem cell?_of_heap {w w' : World} {b o : Nat} (h : w'.heap[b]? = w.heap[b]?) : w'.cell? ⟨b, o, none⟩ = w.cell? ⟨b, o, none⟩ := by
  simp only [World.cell?, h]

theorem RepV.mono {L L' : Nat → Prop} {w w' : World} (hs : w.heap.size ≤ w'.heap.size) (hw : ∀ b, b < w.heap.size → ¬ L b → ¬ L' b ∧ w'.heap[b]? = w.heap[b]?) {v : Value} {x : V} (h : RepV L w v x) : RepV L' w' v x := by
  induction h with
  | int k n => exact .int k n
  | bool b => exact .bool b
  | str s => exact .str s
  | ro b off n cap sz es val hl hn hb hL hsz hc hv ih =>
    obtain ⟨h1, h2⟩ := hw b hb hL
    exact .ro b off n cap sz es val hl hn (by omega) h1 hsz (fun i c hi j x hj => (cell?_of_heap h2).trans (hc i c hi j x hj)) ih
  | roE A cap sz => exact .roE A cap sz

structure Chg (σ : Sg) (L : Nat → Prop) (w : World) (σ' : Sg) (L' : Nat → Prop) (w' : World) : Prop where
  ext : ∀ id p, σ id = some p → σ' id = some p
  size : w.heap.size ≤ w'.heap.size
  keep : ∀ b, b < w.heap.size → ¬ L b → ¬ L' b ∧ w'.heap[b]? = w.heap[b]?

theorem RepC.mono {σ σ' : Sg} {L L' : Nat → Prop} {w w' : World} (g : Chg σ L w σ' L' w') {v : Value} {x : C} (h : RepC σ L w v x) : RepC σ' L' w' v x := by
  cases x with
  | v x => exact RepV.mono g.size g.keep h
  | nil => exact h
  | sl sz id off len =>
    rcases h with ⟨h0, h⟩ | ⟨b, N, cap, h1, h2⟩
    · obtain ⟨p, hp⟩ := Option.ne_none_iff_exists'.1 h0
      exact .inl ⟨by rw [g.ext _ _ hp]; simp, h⟩
    · exact .inr ⟨b, N, cap, g.ext _ _ h1, h2⟩
  | ptr id off =>
    obtain ⟨b, N, h1, h2⟩ := h
    exact ⟨b, N, g.ext _ _ h1, h2⟩
  | rptr cs =>
    obtain ⟨b, off, val, h1, h2, h3, h4⟩ := h
    obtain ⟨k1, k2⟩ := g.keep b h2 h3
    exact ⟨b, off, val, h1, Nat.lt_of_lt_of_le h2 g.size, k1, fun j x hj => ⟨(cell?_of_heap k2).trans (h4 j x hj).1, RepV.mono g.size g.keep (h4 j x hj).2⟩⟩
  | nptr => exact h
  | fn f caps =>
    obtain ⟨vs, h1, h2, h3⟩ := h
    refine ⟨vs, h1, h2, fun i p hp => ?_⟩
    obtain ⟨b, N, k1, k2⟩ := h3 i p hp
    exact ⟨b, N, g.ext _ _ k1, k2⟩
  | any => exact h

theorem RepCs.mono {σ σ' : Sg} {L L' : Nat → Prop} {w w' : World} (g : Chg σ L w σ' L' w') {vs : List Value} {cs : List C} (h : RepCs σ L w vs cs) : RepCs σ' L' w' vs cs :=
  ⟨h.1, fun i x hx => let ⟨u, h1, h2⟩ := h.2 i x hx; ⟨u, h1, h2.mono g⟩⟩

theorem RepT.mono {σ σ' : Sg} {L L' : Nat → Prop} {w w' : World} (g : Chg σ L w σ' L' w') {v : Value} {x : T} (h : RepT σ L w v x) : RepT σ' L' w' v x := by
  cases x with
  | c x => exact RepC.mono g h
  | agg cs => obtain ⟨vs, h1, h2⟩ := h; exact ⟨vs, h1, h2.mono g⟩

theorem RepD.mono {σ σ' : Sg} {L L' : Nat → Prop} {w w' : World} (g : Chg σ L w σ' L' w') {v : Value} {x : D} (h : RepD σ L w v x) : RepD σ' L' w' v x := by
  cases x with
  | t x => exact RepT.mono g h
  | tup xs => obtain ⟨vs, h1, h2, h3⟩ := h; exact ⟨vs, h1, h2, fun i x hx => let ⟨u, k1, k2⟩ := h3 i x hx; ⟨u, k1, k2.mono g⟩⟩
  | und => exact h
  | any => trivial

theorem Tr.chg {X : Nat → Prop} {σ σ' : Sg} {mem mem' : List Blk} {w w' : World} (h : Tr mem.length σ mem w σ' mem' w') (hm : MemOk X σ mem w) : Chg σ (Lv X σ mem) w σ' (Lv X σ' mem') w' := by
  refine ⟨fun id p hp => ?_, h.size, fun b hb hL => ⟨fun hL' => ?_, h.keep b hb fun ho => hL (.inr ho)⟩⟩
  · rw [h.ext id, hp]
    rcases Nat.lt_or_ge id mem.length with h1 | h1
    · exact h1
    · rw [hm.out id h1] at hp; cases hp
  · rcases hL' with h1 | h1
    · exact hL (.inl h1)
    · rcases h.own b h1 with h2 | h2
      · exact hL (.inr h2)
      · omega

theorem RepV.one {L : Nat → Prop} {w : World} {v : Value} {x : V} (h : RepV L w v x) : v.oneCell' = true := by cases h <;> rfl

theorem RepC.one {σ : Sg} {L : Nat → Prop} {w : World} {v : Value} {x : C} (h : RepC σ L w v x) : v.oneCell' = true := by
  cases x with
  | v x => exact RepV.one h
  | nil => obtain ⟨A, rfl⟩ := h; rfl
  | sl sz id off len => rcases h with ⟨_, _, A, rfl⟩ | ⟨b, N, cap, _, rfl, _⟩ <;> rfl
  | ptr id off => obtain ⟨b, N, _, rfl⟩ := h; rfl
  | rptr cs => obtain ⟨b, off, val, rfl, _⟩ := h; rfl
  | nptr => cases h; rfl
  | fn f caps => obtain ⟨vs, rfl, _⟩ := h; rfl
  | any => exact h

/-- A read-only slice, seen from its data. -/
theorem repV_ro {L : Nat → Prop} {w : World} {v : Value} {sz : Nat} {es : List (List V)} (h : RepV L w v (.ro sz es)) : ∃ A cap, v = .slice A es.length cap ∧ es.length ≤ cap ∧
    (es ≠ [] → ∃ b off, ∃ val : Nat → Nat → Value, A = some ⟨b, off, none⟩ ∧ b < w.heap.size ∧ ¬ L b ∧ (∀ (i : Nat) (c : List V), es[i]? = some c → c.length = sz) ∧
      (∀ (i : Nat) (c : List V), es[i]? = some c → ∀ (j : Nat) (x : V), c[j]? = some x → w.cell? ⟨b, off + i * sz + j, none⟩ = some (val i j) ∧ RepV L w (val i j) x)) := by
  cases h with
  | ro b off n cap sz es val hl hn hb hL hsz hc hv => subst hl; exact ⟨_, _, rfl, hn, fun _ => ⟨b, off, val, rfl, hb, hL, hsz, fun i c hi j x hj => ⟨hc i c hi j x hj, hv i c hi j x hj⟩⟩⟩
  | roE A cap sz => exact ⟨_, _, rfl, Nat.zero_le _, fun h => absurd rfl h⟩

end Go.Proofs.YtneiicadhjdbiaaGreat.Ab

namespace Go.Proofs.YtneiicadhjdbiaaGreat.Ab
open Go

abbrev Env := List (Nat × D)
def get : Env → Nat → D
  | [], _ => .any
  | (k, d) :: r, t => if t = k then d else get r t

inductive Opd where
  | t (n : Nat)
  | k (v : V)
  | nil
  | np
  | f (g : Nat)
  | un

def ev (e : Env) : Opd → D
  | .t n => get e n
  | .k v => .t (.c (.v v))
  | .nil => .t (.c .nil)
  | .np => .t (.c .nptr)
  | .f g => .t (.c (.fn g []))
  | .un => .any

def constV : Value → Option C
  | .int k n => some (.v (.int k n))
  | .bool b => some (.v (.bool b))
  | .string s => some (.v (.str s.data.toList))
  | .slice none 0 0 => some .nil
  | .pointer none => some .nptr
  | _ => none

def copd : Operand → Option Opd
  | .tmp t => some (.t t)
  | .const c => match constV c with
    | some (.v x) => some (.k x)
    | some .nil => some .nil
    | some .nptr => some .np
    | _ => some .un
  | .func f => some (.f f)
  | .global _ => none

structure St (X : Nat → Prop) (σ : Sg) (m : List Blk) (w : World) (a : Act) (e : Env) : Prop where
  env : ∀ t, RepD σ (Lv X σ m) w (a.tmps.getD t undef) (get e t)
  mem : MemOk X σ m w

theorem constV_rep {v : Value} {c : C} (h : constV v = some c) (σ : Sg) (L : Nat → Prop) (w : World) : RepC σ L w v c := by
  unfold constV at h
  split at h <;> cases h
  · exact .int _ _
  · exact .bool _
  · rename_i s
    show RepV L w (.string s) (.str s.data.toList)
    have := RepV.str (L := L) (w := w) s.data.toList
    simpa using this
  · exact ⟨none, rfl⟩
  · rfl

theorem opd_rep {X : Nat → Prop} {σ : Sg} {m : List Blk} {w : World} {a : Act} {e : Env} (s : St X σ m w a e) {x : Operand} {y : Opd} (h : copd x = some y) : RepD σ (Lv X σ m) w (a.eval x) (ev e y) := by
  cases x with
  | tmp t => cases h; exact s.env t
  | const c =>
    simp only [copd] at h
    split at h <;> cases h <;> rename_i hc <;> first | exact constV_rep hc σ (Lv X σ m) w | exact trivial
  | global g => cases h
  | func f => cases h; exact ⟨#[], rfl, rfl, fun i p hp => by simp at hp⟩

section inv
variable {σ : Sg} {L : Nat → Prop} {w : World} {v : Value}
theorem repD_int {k : IntKind} {n : Int} (h : RepD σ L w v (.t (.c (.v (.int k n))))) : v = .int k n := by cases h; rfl
theorem repD_bool {b : Bool} (h : RepD σ L w v (.t (.c (.v (.bool b))))) : v = .bool b := by cases h; rfl
theorem repD_str {s : List UInt8} (h : RepD σ L w v (.t (.c (.v (.str s))))) : v = .string ⟨s.toArray⟩ := by cases h; rfl
end inv

/-! ### whole numbers, strings, bools -/
def bin2 (op : BinOp) (x y : V) (K : V → Prop) : Prop :=
  match x, y with
  | .int k a, .int k' b => k = k' ∧ match op with
    | .add => K (.int k (k.wrap (a + b)))
    | .sub => K (.int k (k.wrap (a - b)))
    | .mul => K (.int k (k.wrap (a * b)))
    | .quo => b ≠ 0 ∧ K (.int k (k.wrap (a.tdiv b)))
    | .rem => b ≠ 0 ∧ K (.int k (a.tmod b))
    | .eql => K (.bool (a == b))
    | .neq => K (.bool (a != b))
    | .lss => K (.bool (decide (a < b)))
    | .leq => K (.bool (decide (a ≤ b)))
    | .gtr => K (.bool (decide (a > b)))
    | .geq => K (.bool (decide (a ≥ b)))
    | _ => False
  | .str a, .str b => match op with
    | .add => a.length + b.length ≤ 4611686018427387904 ∧ K (.str (a ++ b))
    | .eql => K (.bool (a == b))
    | .neq => K (.bool !(a == b))
    | .lss => K (.bool (Op.bytesLess a b))
    | _ => False
  | _, _ => False

theorem bin2_sound {P : Program} {L : Nat → Prop} {w : World} {op : BinOp} {x y : V} {K : V → Prop} (hk : bin2 op x y K) {u v : Value} (hu : RepV L w u x) (hv : RepV L w v y) (ty : TypeId) (ox oy : Operand) :
    ∃ r d, K d ∧ RepV L w r d ∧ ∀ w', (do eqGuard op ty ox oy u v; binOp op ty u v : Sem Value).run P w' = .ok r w' := by
  unfold bin2 at hk
  split at hk
  · cases hu; cases hv
    obtain ⟨rfl, hk⟩ := hk
    split at hk
    all_goals first
      | exact ⟨_, _, hk, .int _ _, fun w' => by simp [eqGuard, binOp, Op.intArith]⟩
      | exact ⟨_, _, hk.2, .int _ _, fun w' => by simp [eqGuard, binOp, Op.intDiv, hk.1]⟩
      | exact ⟨_, _, hk, .bool _, fun w' => by simp [eqGuard, binOp, Op.intCmp]⟩
      | exact hk.elim
  · cases hu; cases hv
    rename_i a b
    split at hk
    · refine ⟨_, _, hk.2, .str _, fun w' => ?_⟩
      have h2 := hk.1
      have h3 : ((⟨a.toArray⟩ : ByteArray).size : Int) + ((⟨b.toArray⟩ : ByteArray).size : Int) ≤ 9223372036854775807 := by
        simp only [ByteArray.size, List.size_toArray]; omega
      have h4 : (⟨a.toArray⟩ : ByteArray) ++ ⟨b.toArray⟩ = ⟨(a ++ b).toArray⟩ := by
        apply ByteArray.ext; simp
      simp [eqGuard, binOp, Op.stringOp, h4]; exact h3
    · exact ⟨_, _, hk, .bool _, fun w' => by simp [eqGuard, binOp, Op.stringOp]⟩
    · exact ⟨_, _, hk, .bool _, fun w' => by simp [eqGuard, binOp, Op.stringOp]⟩
    · exact ⟨_, _, hk, .bool _, fun w' => by simp [eqGuard, binOp, Op.stringOp]⟩
    · exact hk.elim
  · exact hk.elim

/-! ### reading memory -/
def rdm (m : List Blk) (id off n : Nat) : Option (List C) :=
  match m[id]? with
  | some (.cells cs) => if off + n ≤ cs.length then some ((cs.drop off).take n) else none
  | _ => none

theorem rdm_len {m : List Blk} {id off n : Nat} {cs : List C} (h : rdm m id off n = some cs) : cs.length = n := by
  unfold rdm at h
  split at h
  · split at h
    · cases h; simp; omega
    · cases h
  · cases h

/-- What a memory leaves alone that only grows. -/
def Grow (w w' : World) : Prop := w.heap.size ≤ w'.heap.size ∧ ∀ b, b < w.heap.size → w'.heap[b]? = w.heap[b]?

theorem Grow.refl (w : World) : Grow w w := ⟨Nat.le_refl _, fun _ _ => rfl⟩
theorem Grow.trans {a b c : World} (h : Grow a b) (k : Grow b c) : Grow a c :=
  ⟨Nat.le_trans h.1 k.1, fun i hi => (k.2 i (Nat.lt_of_lt_of_le hi h.1)).trans (h.2 i hi)⟩

theorem cell?_lt {w : World} {b o : Nat} {v : Value} (h : w.cell? ⟨b, o, none⟩ = some v) : b < w.heap.size := World.block_lt_of_cell? w _ h

theorem Grow.cell {w w' : World} (g : Grow w w') {b o : Nat} {v : Value} (h : w.cell? ⟨b, o, none⟩ = some v) : w'.cell? ⟨b, o, none⟩ = some v :=
  (cell?_of_heap (g.2 b (cell?_lt h))).trans h

theorem own_cells {X : Nat → Prop} {σ : Sg} {m : List Blk} {w : World} (hm : MemOk X σ m w) {id b N off n : Nat} {cs : List C} (hs : σ id = some (some (b, N))) (h : rdm m id off n = some cs) :
    ∃ vs : List Value, vs.length = n ∧ RepCs σ (Lv X σ m) w vs cs ∧ ∀ j v, vs[j]? = some v → w.cell? ⟨b, off + j, none⟩ = some v := by
  unfold rdm at h
  split at h
  · rename_i all hall
    split at h
    · rename_i hle
      cases h
      rcases hm.blk id all hall with ⟨h1, _⟩ | ⟨b', N', h1, c, e, h2, h3, h4, h5⟩
      · rw [hs] at h1; cases h1
      · rw [hs] at h1; cases h1
        have key : ∀ j, j < n → ∃ v, c[off + j]? = some v ∧ ∃ x, all[off + j]? = some x ∧ RepC σ (Lv X σ m) w v x := fun j hj => by
          have hlt : off + j < all.length := by omega
          obtain ⟨v, k1, k2⟩ := h5 (off + j) all[off + j] (List.getElem?_eq_getElem hlt)
          exact ⟨v, k1, _, List.getElem?_eq_getElem hlt, k2⟩
        refine ⟨(c.toList.drop off).take n, by simp; omega, ⟨by simp; omega, fun j x hx => ?_⟩, fun j v hv => ?_⟩
        · rw [List.getElem?_take] at hx
          split at hx
          · rename_i hj
            obtain ⟨v, k1, x', k2, k3⟩ := key j hj
            rw [List.getElem?_drop] at hx
            rw [hx] at k2; cases k2
            refine ⟨v, ?_, k3⟩
            rw [List.getElem?_take, if_pos hj, List.getElem?_drop]; simpa using k1
          · cases hx
        · rw [List.getElem?_take] at hv
          split at hv
          · rw [List.getElem?_drop] at hv
            simp only [World.cell?, h2]
            simpa using hv
          · cases hv
    · cases h
  · cases h

theorem run_loadVar_agg {P : Program} {t : TypeId} {i : TypeInfo} (ht : (match P.underlying t with | some (.struct _) => true | some (.array _ _) => true | _ => false) = true) (hi : P.info? t = some i)
    {w : World} {b off : Nat} {vs : List Value} (hn : vs.length = i.size) (h : ∀ j v, vs[j]? = some v → w.cell? ⟨b, off + j, none⟩ = some v) :
    (loadVar t ⟨b, off, none⟩).run P w = .ok (.agg vs.toArray) w := by
  have hagg : (isAgg t).run P w = .ok true w := by
    unfold isAgg
    cases hu : P.underlying t with
    | none => simp [hu] at ht
    | some d => cases d <;> simp [hu] at ht <;> simp [run_underlying hu]
  have hc : P.cellsOf t = vs.length := by simp [Program.cellsOf, hi, hn]
  have hl : (loadCells ⟨b, off, none⟩ vs.length).run P w = .ok vs.toArray w := run_loadCells_list w _ vs fun j v hv => by
    have := h j v hv
    rw [show (Addr.add ⟨b, off, none⟩ j) = ⟨b, off + j, none⟩ from Addr.add_lit b off j]; exact this
  simp [loadVar, hagg, run_sizeOf w hi, hc, hl]

theorem run_loadVar_one {P : Program} {t : TypeId} {d : TypeDesc} (hu : P.underlying t = some d) (ht : (match d with | .struct _ => true | .array _ _ => true | _ => false) = false)
    {w : World} {b off : Nat} {v : Value} (h : w.cell? ⟨b, off, none⟩ = some v) : (loadVar t ⟨b, off, none⟩).run P w = .ok v w := by
  have hagg : (isAgg t).run P w = .ok false w := by
    unfold isAgg
    cases d <;> simp at ht <;> simp [run_underlying hu]
  simp [loadVar, hagg, h]

end Go.Proofs.YtneiicadhjdbiaaGreat.Ab

namespace Go.Proofs.YtneiicadhjdbiaaGreat.Ab
open Go

inductive FOp where
  | mv (x : Opd)
  | pick (c a b : Opd)
  | ld (n : Nat) (x : Opd)
  | ld1 (x : Opd)
  | chk (x : Opd)
  | bin (op : BinOp) (x y : Opd)
  | beq (neg : Bool) (x y : Opd)
  | isnil (neg : Bool) (x : Opd)
  | not (x : Opd)
  | neg (x : Opd)
  | conv (k : IntKind) (x : Opd)
  | convS (x : Opd)
  | bstr (x : Opd)
  | mkfn (f : Nat) (caps : List Opd)
  | build (zero : List C) (parts : List (Nat × Nat × Opd))
  | sls (sz : Nat) (x : Opd) (lo hi : Option Opd)
  | slstr (x : Opd) (lo hi : Option Opd)
  | fa (off : Nat) (x : Opd)
  | fd (off n : Nat) (x : Opd)
  | fd1 (off : Nat) (x : Opd)
  | ia (sz : Nat) (x i : Opd)
  | is (x i : Opd)
  | ext (x : Opd) (i : Nat)
  | len (x : Opd)
  | lenS (x : Opd)
  | mx (isMax : Bool) (x y : Opd)

abbrev DC (x : C) : D := .t (.c x)
abbrev DV (x : V) : D := .t (.c (.v x))
abbrev DA (cs : List C) : D := .t (.agg cs)

def cellsD : D → Option (List C)
  | .t (.c x) => some [x]
  | .t (.agg cs) => some cs
  | _ => none

def putCells : List C → Nat → List C → List C
  | cs, _, [] => cs
  | cs, o, x :: r => putCells (cs.set o x) (o + 1) r

def buildC (e : Env) : List C → List (Nat × Nat × Opd) → Option (List C)
  | cs, [] => some cs
  | cs, (o, n, x) :: r => match cellsD (ev e x) with
    | some xs => if xs.length = n ∧ o + n ≤ cs.length then buildC e (putCells cs o xs) r else none
    | none => none

def capsOf (e : Env) : List Opd → Option (List (Nat × Nat))
  | [] => some []
  | x :: r => match ev e x, capsOf e r with
    | .t (.c (.ptr id off)), some l => some ((id, off) :: l)
    | _, _ => none

def bnd (e : Env) (d : Nat) : Option Opd → Option Int
  | none => some d
  | some x => match ev e x with
    | .t (.c (.v (.int _ i))) => some i
    | _ => none

def strOf : List C → Option (List UInt8)
  | [] => some []
  | .v (.int .u8 n) :: r => (strOf r).map (UInt8.ofNat n.toNat :: ·)
  | _ => none

def fop (o : FOp) (e : Env) (m : List Blk) (K : D → Prop) : Prop :=
  match o with
  | .mv x => K (ev e x)
  | .pick c a b => match ev e c with
    | .t (.c (.v (.bool c))) => K (if c = true then ev e a else ev e b)
    | _ => False
  | .ld n x => match ev e x with
    | .t (.c (.ptr id off)) => ∃ cs, rdm m id off n = some cs ∧ K (DA cs)
    | .t (.c (.rptr vs)) => n ≤ vs.length ∧ K (DA ((vs.take n).map .v))
    | _ => False
  | .ld1 x => match ev e x with
    | .t (.c (.ptr id off)) => ∃ c, rdm m id off 1 = some [c] ∧ K (DC c)
    | .t (.c (.rptr vs)) => ∃ v, vs[0]? = some v ∧ K (DV v)
    | _ => False
  | .chk x => match ev e x with
    | .t (.c (.ptr id off)) => K (DC (.ptr id off))
    | .t (.c (.rptr vs)) => K (DC (.rptr vs))
    | _ => False
  | .bin op x y => match ev e x, ev e y with
    | .t (.c (.v a)), .t (.c (.v b)) => bin2 op a b fun r => K (DV r)
    | _, _ => False
  | .beq neg x y => match ev e x, ev e y with
    | .t (.c (.v (.bool a))), .t (.c (.v (.bool b))) => K (DV (.bool ((a == b) != neg)))
    | _, _ => False
  | .isnil neg x => match ev e x with
    | .t (.c (.sl _ _ _ len)) => if 0 < len then K (DV (.bool neg)) else ∀ b, K (DV (.bool b))
    | .t (.c (.v (.ro _ es))) => if 0 < es.length then K (DV (.bool neg)) else ∀ b, K (DV (.bool b))
    | .t (.c .nil) => ∀ b, K (DV (.bool b))
    | _ => False
  | .not x => match ev e x with
    | .t (.c (.v (.bool b))) => K (DV (.bool !b))
    | _ => False
  | .neg x => match ev e x with
    | .t (.c (.v (.int k n))) => K (DV (.int k (k.wrap (0 - n))))
    | _ => False
  | .conv k x => match ev e x with
    | .t (.c (.v (.int _ n))) => K (DV (.int k (k.wrap n)))
    | _ => False
  | .convS x => match ev e x with
    | .t (.c (.v (.str s))) => K (DV (.str s))
    | _ => False
  | .bstr x => match ev e x with
    | .t (.c (.sl sz id off len)) => sz = 1 ∧ ∃ cs, rdm m id off len = some cs ∧ ∃ s, strOf cs = some s ∧ K (DV (.str s))
    | _ => False
  | .mkfn f caps => match capsOf e caps with
    | some l => K (DC (.fn f l))
    | none => False
  | .build zero parts => match buildC e zero parts with
    | some cs => K (DA cs)
    | none => False
  | .sls sz x lo hi => match ev e x with
    | .t (.c (.sl sz' id off len)) => sz' = sz ∧ ∃ l h, bnd e 0 lo = some l ∧ bnd e len hi = some h ∧ 0 ≤ l ∧ l ≤ h ∧ h ≤ len ∧ K (DC (.sl sz id (off + l.toNat * sz) (h - l).toNat))
    | .t (.c (.v (.ro sz' es))) => sz' = sz ∧ ∃ l h, bnd e 0 lo = some l ∧ bnd e es.length hi = some h ∧ 0 ≤ l ∧ l ≤ h ∧ h ≤ es.length ∧ K (DV (.ro sz ((es.drop l.toNat).take (h - l).toNat)))
    | .t (.c .nil) => ∃ l h, bnd e 0 lo = some l ∧ bnd e 0 hi = some h ∧ l = 0 ∧ h = 0 ∧ K (DC .nil)
    | _ => False
  | .slstr x lo hi => match ev e x with
    | .t (.c (.v (.str s))) => ∃ l h, bnd e 0 lo = some l ∧ bnd e s.length hi = some h ∧ 0 ≤ l ∧ l ≤ h ∧ h ≤ s.length ∧ K (DV (.str ((s.drop l.toNat).take (h - l).toNat)))
    | _ => False
  | .fa off x => match ev e x with
    | .t (.c (.ptr id o)) => K (DC (.ptr id (o + off)))
    | .t (.c (.rptr vs)) => K (DC (.rptr (vs.drop off)))
    | _ => False
  | .fd off n x => match ev e x with
    | .t (.agg cs) => off + n ≤ cs.length ∧ K (DA ((cs.drop off).take n))
    | _ => False
  | .fd1 off x => match ev e x with
    | .t (.agg cs) => ∃ c, cs[off]? = some c ∧ K (DC c)
    | _ => False
  | .ia sz x i => match ev e x, ev e i with
    | .t (.c (.sl sz' id off len)), .t (.c (.v (.int _ i))) => sz' = sz ∧ 0 ≤ i ∧ i < len ∧ K (DC (.ptr id (off + i.toNat * sz)))
    | .t (.c (.v (.ro sz' es))), .t (.c (.v (.int _ i))) => sz' = sz ∧ 0 ≤ i ∧ ∃ c, es[i.toNat]? = some c ∧ K (DC (.rptr c))
    | _, _ => False
  | .is x i => match ev e x, ev e i with
    | .t (.c (.v (.str s))), .t (.c (.v (.int _ i))) => 0 ≤ i ∧ ∃ b, s[i.toNat]? = some b ∧ K (DV (.int .u8 b.toNat))
    | _, _ => False
  | .ext x i => match ev e x with
    | .tup xs => ∃ t, xs[i]? = some t ∧ K (.t t)
    | _ => False
  | .len x => match ev e x with
    | .t (.c (.sl _ _ _ len)) => K (DV (.int .i64 len))
    | .t (.c (.v (.ro _ es))) => K (DV (.int .i64 es.length))
    | .t (.c .nil) => K (DV (.int .i64 0))
    | _ => False
  | .lenS x => match ev e x with
    | .t (.c (.v (.str s))) => K (DV (.int .i64 s.length))
    | _ => False
  | .mx isMax x y => match ev e x, ev e y with
    | .t (.c (.v (.int k a))), .t (.c (.v (.int _ b))) => K (DV (.int k (if isMax then (if b > a then b else a) else (if b < a then b else a))))
    | _, _ => False

def isStruct (P : Program) (t : TypeId) : Bool := match P.underlying t with | some (.struct _) => true | some (.array _ _) => true | _ => false

def zeroOf : Option Value → Option (List C)
  | some (.agg vs) => vs.toList.mapM constV
  | some v => (constV v).map fun c => [c]
  | none => none

def compL (P : Program) (c : Call) : Option FOp :=
  match c.callee with
  | .builtin .len => match c.args.toList, c.argTypes.toList with
    | [x], [t] => match P.underlying t with
      | some (.slice _) => do some (.len (← copd x))
      | some .string => do some (.lenS (← copd x))
      | _ => none
    | _, _ => none
  | .builtin .max => match c.args.toList with
    | [x, y] => do some (.mx true (← copd x) (← copd y))
    | _ => none
  | .builtin .min => match c.args.toList with
    | [x, y] => do some (.mx false (← copd x) (← copd y))
    | _ => none
  | _ => none

def isNilC : Operand → Bool
  | .const (.slice none n c) => n == 0 && c == 0
  | _ => false

def compB (P : Program) (op : BinOp) (t : TypeId) (x y : Operand) : Option FOp :=
  match P.underlying t with
  | some (.int _) => do some (.bin op (← copd x) (← copd y))
  | some .string => do some (.bin op (← copd x) (← copd y))
  | some .bool => match op with
    | .eql => do some (.beq false (← copd x) (← copd y))
    | .neq => do some (.beq true (← copd x) (← copd y))
    | _ => none
  | some (.slice _) => match op with
    | .eql => if isNilC y then do some (.isnil false (← copd x)) else none
    | .neq => if isNilC y then do some (.isnil true (← copd x)) else none
    | _ => none
  | _ => none

def compF (P : Program) (o : Op) : Option FOp :=
  match o with
  | .move x | .assign x => (copd x).map .mv
  | .pick c a b => do some (.pick (← copd c) (← copd a) (← copd b))
  | .load t x => if isStruct P t then do some (.ld (← P.info? t).size (← copd x)) else if (P.underlying t).isSome then do some (.ld1 (← copd x)) else none
  | .nilCheck x => do some (.chk (← copd x))
  | .binOp op t x y _ => compB P op t x y
  | .unOp .not _ x => do some (.not (← copd x))
  | .unOp .neg _ x => do some (.neg (← copd x))
  | .convert src dst x => match P.underlying src, P.underlying dst with
    | some (.int _), some (.int k) => do some (.conv k (← copd x))
    | some .string, some .string => do some (.convS (← copd x))
    | some (.slice el), some .string => match P.underlying el with
      | some (.int .u8) => do some (.bstr (← copd x))
      | _ => none
    | _, _ => none
  | .makeFunc (.func f) first caps => if first.toList.isEmpty then do some (.mkfn f (← caps.toList.mapM copd)) else none
  | .slice t x lo hi none => match P.underlying t with
    | some (.slice el) => do some (.sls (← P.info? el).size (← copd x) (← lo.mapM copd) (← hi.mapM copd))
    | some .string => do some (.slstr (← copd x) (← lo.mapM copd) (← hi.mapM copd))
    | _ => none
  | .fieldAddr s x f => match P.underlying s with
    | some (.struct fs) => match fs[f]? with
      | some fl => match P.info? fl.type with
        | some i => if i.size = 0 then none else do some (.fa fl.offset (← copd x))
        | none => none
      | none => none
    | _ => none
  | .field s x f => match P.underlying s with
    | some (.struct fs) => match fs[f]? with
      | some fl => if isStruct P fl.type then do some (.fd fl.offset (← P.info? fl.type).size (← copd x)) else if (P.underlying fl.type).isSome then do some (.fd1 fl.offset (← copd x)) else none
      | none => none
    | _ => none
  | .indexAddr t x i => match P.underlying t with
    | some (.slice el) => do some (.ia (← P.info? el).size (← copd x) (← copd i))
    | _ => none
  | .index t x i => match P.underlying t with
    | some .string => do some (.is (← copd x) (← copd i))
    | _ => none
  | .extract x i => do some (.ext (← copd x) i)
  | .call c => compL P c
  | .build t parts => match P.underlying t with
    | some (.struct fs) => if fs.toList.all (fun fl => (P.info? fl.type).isSome) then do
      let z ← zeroOf ((P.info? t).bind (·.zero))
      let ps ← parts.toList.mapM fun (i, x) => do
        let fl ← fs[i]?
        some (fl.offset, (← P.info? fl.type).size, ← copd x)
      some (.build z ps)
      else none
    | _ => none
  | _ => none

end Go.Proofs.YtneiicadhjdbiaaGreat.Ab

namespace Go.Proofs.YtneiicadhjdbiaaGreat.Ab
open Go

/-- Now and in every memory that has only grown, s answers v. -/
def Ans (P : Program) (w : World) (s : Sem Value) (v : Value) : Prop := ∀ w', Grow w w' → s.run P w' = .ok v w'
/-- The same, whatever memory is. -/
def AnsA (P : Program) (_ : World) (s : Sem Value) (v : Value) : Prop := ∀ w' : World, True → s.run P w' = .ok v w'

section
variable {P : Program} {X : Nat → Prop} {σ : Sg} {m : List Blk} {w : World} {a : Act} {e : Env} {K : D → Prop}

theorem opdO {α β : Type} {f : α → Option β} {g : Option α} {r : β} (h : (g >>= f) = some r) : ∃ x, g = some x ∧ f x = some r := by
  cases g with
  | none => cases h
  | some x => exact ⟨x, rfl, h⟩

theorem isStruct_eq {t : TypeId} : (match P.underlying t with | some (.struct _) => true | some (.array _ _) => true | _ => false) = isStruct P t := rfl

theorem run_load_any {t : TypeId} {b off : Nat} {w : World} {i : TypeInfo} {vs : List Value} (ht : isStruct P t = true) (hi : P.info? t = some i) (hn : vs.length = i.size)
    (h : ∀ j v, vs[j]? = some v → w.cell? ⟨b, off + j, none⟩ = some v) : (Instr.loadAt t (.pointer (some ⟨b, off, none⟩))).run P w = .ok (.agg vs.toArray) w := by
  simp [Instr.loadAt, Instr.sureAddr, run_loadVar_agg ht hi hn h]

theorem run_load_cell {t : TypeId} {b off : Nat} {w : World} {v : Value} (ht : isStruct P t = false) (hi : (P.underlying t).isSome = true)
    (h : w.cell? ⟨b, off, none⟩ = some v) : (Instr.loadAt t (.pointer (some ⟨b, off, none⟩))).run P w = .ok v w := by
  obtain ⟨d, hd⟩ := Option.isSome_iff_exists.mp hi
  have h2 : (match d with | .struct _ => true | .array _ _ => true | _ => false) = false := by
    unfold isStruct at ht; rw [hd] at ht; cases d <;> first | rfl | (cases ht)
  simp [Instr.loadAt, Instr.sureAddr, run_loadVar_one hd h2 h]

theorem s_load {t : TypeId} {x : Operand} {co : FOp} (hc : compF P (.load t x) = some co) (s : St X σ m w a e) (hk : fop co e m K) :
    ∃ v d, K d ∧ RepD σ (Lv X σ m) w v d ∧ Ans P w (Instr.loadAt t (a.eval x)) v := by
  simp only [compF] at hc
  split at hc
  · rename_i ht
    obtain ⟨i, hi, hc⟩ := opdO hc
    obtain ⟨y, hy, hc⟩ := opdO hc
    cases hc
    have hx := opd_rep s hy
    simp only [fop] at hk
    split at hk
    · rename_i id off hev
      rw [hev] at hx
      obtain ⟨cs, hr, hk⟩ := hk
      obtain ⟨b, N, hs, hv⟩ := hx
      obtain ⟨vs, h1, h2, h3⟩ := own_cells s.mem hs hr
      refine ⟨_, _, hk, ⟨vs, rfl, h2⟩, fun w' g => ?_⟩
      rw [hv]
      exact run_load_any ht hi h1 fun j v hj => g.cell (h3 j v hj)
    · rename_i vs hev
      rw [hev] at hx
      obtain ⟨b, off, val, hv, hb, hL, hcell⟩ := hx
      have hget : ∀ j, j < i.size → ∃ u, vs[j]? = some u := fun j hj => ⟨_, List.getElem?_eq_getElem (by omega)⟩
      refine ⟨.agg ((List.range i.size).map val).toArray, _, hk.2, ⟨_, rfl, by simp; omega, fun j c hj => ?_⟩, fun w' g => ?_⟩
      · simp only [List.getElem?_map, List.getElem?_take, Option.map_eq_some_iff] at hj
        obtain ⟨u, hu, rfl⟩ := hj
        split at hu
        · rename_i hlt
          exact ⟨val j, by simp [hlt], (hcell j u hu).2⟩
        · cases hu
      · rw [hv]
        refine run_load_any ht hi (by simp) fun j v hj => ?_
        simp only [List.getElem?_map, Option.map_eq_some_iff] at hj
        obtain ⟨q, hq, rfl⟩ := hj
        rw [List.getElem?_eq_some_iff] at hq
        obtain ⟨hlt, hq⟩ := hq
        simp only [List.length_range] at hlt
        simp only [List.getElem_range] at hq
        subst hq
        obtain ⟨u, hu⟩ := hget _ hlt
        exact g.cell (hcell _ u hu).1
    · exact hk.elim
  · rename_i ht
    split at hc
    · rename_i hi
      obtain ⟨y, hy, hc⟩ := opdO hc
      cases hc
      have hx := opd_rep s hy
      simp only [Bool.not_eq_true] at ht
      simp only [fop] at hk
      split at hk
      · rename_i id off hev
        rw [hev] at hx
        obtain ⟨c, hr, hk⟩ := hk
        obtain ⟨b, N, hs, hv⟩ := hx
        obtain ⟨vs, h1, h2, h3⟩ := own_cells s.mem hs hr
        obtain ⟨u, hu, hrep⟩ := h2.2 0 c rfl
        refine ⟨u, _, hk, hrep, fun w' g => ?_⟩
        rw [hv]
        exact run_load_cell ht hi (by have := g.cell (h3 0 u hu); simpa using this)
      · rename_i vs hev
        rw [hev] at hx
        obtain ⟨c, hr, hk⟩ := hk
        obtain ⟨b, off, val, hv, hb, hL, hcell⟩ := hx
        have h0 := hcell 0 c hr
        refine ⟨val 0, _, hk, h0.2, fun w' g => ?_⟩
        rw [hv]
        exact run_load_cell ht hi (by have := g.cell h0.1; simpa using this)
      · exact hk.elim
    · cases hc

theorem rB {L : Nat → Prop} (b : Bool) : RepD σ L w (.bool b) (DV (.bool b)) := RepV.bool b
theorem rBn {L : Nat → Prop} (b : Bool) (x : Addr) : RepD σ L w (.bool ((some x).isNone != b)) (DV (.bool b)) := by
  cases b <;> exact RepV.bool _

theorem binOp_eql_slice (w : World) (t e : TypeId) (a : Option Addr) (l c : Nat) (h : P.underlying t = some (.slice e)) : (binOp .eql t (.slice a l c) (.slice none 0 0)).run P w = .ok (.bool a.isNone) w := by
  simp only [binOp]
  simp [run_equal_slice_nil w t e a l c h]

theorem s_bin {op : BinOp} {t : TypeId} {x y : Operand} {co : FOp} (hc : compB P op t x y = some co) (s : St X σ m w a e) (hk : fop co e m K) :
    ∃ v d, K d ∧ RepD σ (Lv X σ m) w v d ∧ AnsA P w (do eqGuard op t x y (a.eval x) (a.eval y); binOp op t (a.eval x) (a.eval y)) v := by
  have main : ∀ co, (do some (FOp.bin op (← copd x) (← copd y))) = some co → fop co e m K →
      ∃ v d, K d ∧ RepD σ (Lv X σ m) w v d ∧ AnsA P w (do eqGuard op t x y (a.eval x) (a.eval y); binOp op t (a.eval x) (a.eval y)) v := by
    intro co hc hk
    obtain ⟨x', hx, hc⟩ := opdO hc
    obtain ⟨y', hy, hc⟩ := opdO hc
    cases hc
    have hx := opd_rep s hx
    have hy := opd_rep s hy
    simp only [fop] at hk
    split at hk
    · rename_i p q hp hq
      rw [hp] at hx; rw [hq] at hy
      obtain ⟨r, d, h1, h2, h3⟩ := bin2_sound (P := P) hk hx hy t x y
      exact ⟨r, _, h1, h2, fun w' _ => h3 w'⟩
    · exact hk.elim
  have bools : ∀ neg (ho : op = if neg then .neq else .eql) co, P.underlying t = some .bool → (do some (FOp.beq neg (← copd x) (← copd y))) = some co → fop co e m K →
      ∃ v d, K d ∧ RepD σ (Lv X σ m) w v d ∧ AnsA P w (do eqGuard op t x y (a.eval x) (a.eval y); binOp op t (a.eval x) (a.eval y)) v := by
    intro neg ho co ht hc hk
    obtain ⟨x', hx, hc⟩ := opdO hc
    obtain ⟨y', hy, hc⟩ := opdO hc
    cases hc
    have hx := opd_rep s hx
    have hy := opd_rep s hy
    simp only [fop] at hk
    split at hk
    · rename_i p q hp hq
      rw [hp] at hx; rw [hq] at hy
      rw [repD_bool hx, repD_bool hy]
      refine ⟨_, _, hk, .bool _, fun w' _ => ?_⟩
      subst ho
      rw [eqGuard_at_bool]
      cases neg
      · simp [run_eql_bool w' t p q ht]
      · simp [run_neq_bool w' t p q ht]
    · exact hk.elim
  have nils : ∀ neg (ho : op = if neg then .neq else .eql) el co, P.underlying t = some (.slice el) → isNilC y = true → (do some (FOp.isnil neg (← copd x))) = some co → fop co e m K →
      ∃ v d, K d ∧ RepD σ (Lv X σ m) w v d ∧ AnsA P w (do eqGuard op t x y (a.eval x) (a.eval y); binOp op t (a.eval x) (a.eval y)) v := by
    intro neg ho el co ht hyc hc hk
    obtain ⟨x', hx, hc⟩ := opdO hc
    cases hc
    have hx := opd_rep s hx
    have hslice : ∀ A n c, a.eval x = .slice A n c → AnsA P w (do eqGuard op t x y (a.eval x) (a.eval y); binOp op t (a.eval x) (a.eval y)) (.bool (A.isNone != neg)) := by
      intro A n c hv w' _
      have hyv : a.eval y = .slice none 0 0 := by
        unfold isNilC at hyc
        split at hyc
        · simp only [Bool.and_eq_true, beq_iff_eq] at hyc; obtain ⟨rfl, rfl⟩ := hyc; rfl
        · cases hyc
      rw [hv, hyv]
      subst ho
      rw [eqGuard_at_slice]
      cases neg
      · simp [binOp_eql_slice w' t el A n c ht]
      · simp [run_neq_slice_nil w' t el A n c ht]
    simp only [fop] at hk
    split at hk
    · rename_i sz id off len hev
      rw [hev] at hx
      rcases hx with ⟨_, h0, A, hv⟩ | ⟨b, N, cap, h1, hv, h2⟩
      · subst h0
        exact ⟨_, _, hk _, rB _, hslice _ _ _ hv⟩
      · split at hk
        · exact ⟨_, _, hk, rBn _ _, hslice _ _ _ hv⟩
        · exact ⟨_, _, hk _, rB _, hslice _ _ _ hv⟩
    · rename_i sz es hev
      rw [hev] at hx
      obtain ⟨A, cap, hv, _, hne⟩ := repV_ro hx
      split at hk
      · rename_i hpos
        obtain ⟨b, off, val, rfl, _⟩ := hne (by intro h0; subst h0; simp at hpos)
        exact ⟨_, _, hk, rBn _ _, hslice _ _ _ hv⟩
      · exact ⟨_, _, hk _, rB _, hslice _ _ _ hv⟩
    · rename_i hev
      rw [hev] at hx
      obtain ⟨A, hv⟩ := hx
      exact ⟨_, _, hk _, rB _, hslice _ _ _ hv⟩
    · exact hk.elim
  unfold compB at hc
  split at hc
  · exact main _ hc hk
  · exact main _ hc hk
  · rename_i ht
    split at hc
    · exact bools false rfl _ ht hc hk
    · exact bools true rfl _ ht hc hk
    · cases hc
  · rename_i el ht
    split at hc
    · split at hc
      · rename_i hn; exact nils false rfl el _ ht hn hc hk
      · cases hc
    · split at hc
      · rename_i hn; exact nils true rfl el _ ht hn hc hk
      · cases hc
    · cases hc
  · cases hc

end
end Go.Proofs.YtneiicadhjdbiaaGreat.Ab

namespace Go.Proofs.YtneiicadhjdbiaaGreat.Ab
open Go

section
variable {P : Program} {X : Nat → Prop} {σ : Sg} {m : List Blk} {w : World} {a : Act} {e : Env} {K : D → Prop}

theorem s_caps (s : St X σ m w a e) : ∀ (caps : List Operand) (ys : List Opd) (l : List (Nat × Nat)), caps.mapM copd = some ys → capsOf e ys = some l →
    (caps.map a.eval).length = l.length ∧ ∀ (i : Nat) (p : Nat × Nat), l[i]? = some p → ∃ b N, σ p.1 = some (some (b, N)) ∧ (caps.map a.eval)[i]? = some (.pointer (some ⟨b, p.2, none⟩))
  | [], ys, l, h, hl => by
    simp only [List.mapM_nil] at h
    cases h
    simp only [capsOf] at hl
    cases hl
    exact ⟨rfl, fun i p hp => by simp at hp⟩
  | x :: r, ys, l, h, hl => by
    rw [List.mapM_cons] at h
    obtain ⟨y, hy, h⟩ := opdO h
    obtain ⟨ys', hys, h⟩ := opdO h
    cases h
    have hx := opd_rep s hy
    simp only [capsOf] at hl
    split at hl
    · rename_i id off l' he hl'
      cases hl
      rw [he] at hx
      obtain ⟨b, N, h1, h2⟩ := hx
      obtain ⟨k1, k2⟩ := s_caps s r ys' l' hys hl'
      refine ⟨by simpa using k1, fun i p hp => ?_⟩
      cases i with
      | zero => simp only [List.getElem?_cons_zero] at hp; cases hp; exact ⟨b, N, h1, by simp [h2]⟩
      | succ i => simp only [List.getElem?_cons_succ] at hp; obtain ⟨b, N, h3, h4⟩ := k2 i p hp; exact ⟨b, N, h3, by simpa using h4⟩
    · cases hl

/-- A bound of a slice expression. -/
theorem s_bnd (s : St X σ m w a e) {d : Nat} {o : Option Operand} {y : Option Opd} (h : o.mapM copd = some y) {l : Int} (hl : bnd e d y = some l) :
    (o = none ∧ l = d) ∨ ∃ x k, o = some x ∧ a.eval x = .int k l := by
  cases o with
  | none => simp [Option.mapM] at h; subst h; simp only [bnd] at hl; cases hl; exact .inl ⟨rfl, rfl⟩
  | some x =>
    simp only [Option.mapM_some] at h
    cases hy : copd x with
    | none => simp [hy] at h
    | some y' =>
      simp [hy] at h
      subst h
      have hx := opd_rep s hy
      simp only [bnd] at hl
      split at hl
      · rename_i k i he
        cases hl
        rw [he] at hx
        exact .inr ⟨x, k, rfl, repD_int hx⟩
      · cases hl

theorem run_bounds {isSlice : Bool} {len cap : Nat} {lo hi : Option Value} {l h : Int} (hlo : lo = none ∧ l = 0 ∨ ∃ k, lo = some (.int k l)) (hhi : hi = none ∧ h = len ∨ ∃ k, hi = some (.int k h))
    (h0 : 0 ≤ l) (h1 : l ≤ h) (h2 : h ≤ cap) (w : World) : (Instr.sliceBounds isSlice len cap lo hi none).run P w = .ok (l.toNat, h.toNat, cap) w := by
  have e1 : (h.toNat : Int) = h := Int.toNat_of_nonneg (by omega)
  rcases hlo with ⟨rfl, rfl⟩ | ⟨k, rfl⟩ <;> rcases hhi with ⟨rfl, rfl⟩ | ⟨k', rfl⟩ <;>
    simp [Instr.sliceBounds, Instr.sliceBound, asIntOf, h0, h1, h2, e1, Int.le_trans h0 h1]

theorem s_slice {t : TypeId} {x : Operand} {lo hi mx : Option Operand} {co : FOp} (hc : compF P (.slice t x lo hi mx) = some co) (s : St X σ m w a e) (hk : fop co e m K) :
    ∃ v d, K d ∧ RepD σ (Lv X σ m) w v d ∧ AnsA P w (Instr.sliceAt t (a.eval x) (lo.map a.eval) (hi.map a.eval) (mx.map a.eval)) v := by
  cases mx with
  | some mx => simp [compF] at hc
  | none =>
    simp only [compF] at hc
    split at hc
    · rename_i el ht
      obtain ⟨i, hi', hc⟩ := opdO hc
      obtain ⟨y, hy, hc⟩ := opdO hc
      obtain ⟨lo', hlo, hc⟩ := opdO hc
      obtain ⟨hi'', hhi, hc⟩ := opdO hc
      cases hc
      have hx := opd_rep s hy
      have run : ∀ A len cap l h, a.eval x = .slice A len cap → bnd e 0 lo' = some l → bnd e len hi'' = some h → 0 ≤ l → l ≤ h → h ≤ (len : Int) → len ≤ cap →
          AnsA P w (Instr.sliceAt t (a.eval x) (lo.map a.eval) (hi.map a.eval) none) (.slice (if cap = l.toNat then A else A.map (·.add (l.toNat * i.size))) (h.toNat - l.toNat) (cap - l.toNat)) := by
        intro A len cap l h hv hl hh h0 h1 h2 h3 w' _
        have b1 := s_bnd s hlo hl
        have b2 := s_bnd s hhi hh
        have hb := run_bounds (P := P) (isSlice := true) (len := len) (cap := cap) (lo := lo.map a.eval) (hi := hi.map a.eval) (l := l) (h := h)
          (by rcases b1 with ⟨rfl, h⟩ | ⟨x, k, rfl, h⟩; exact .inl ⟨rfl, by simpa using h⟩; exact .inr ⟨k, by simp [h]⟩)
          (by rcases b2 with ⟨rfl, h⟩ | ⟨x, k, rfl, h⟩; exact .inl ⟨rfl, h⟩; exact .inr ⟨k, by simp [h]⟩) h0 h1 (by omega) w'
        rw [hv]
        simp [Instr.sliceAt, Instr.slice, run_underlying ht, hb, run_sizeOf _ hi', Program.cellsOf, hi']
      simp only [fop] at hk
      split at hk
      · rename_i sz id off len hev
        obtain ⟨rfl, l, h, hl, hh, h0, h1, h2, hk⟩ := hk
        rw [hev] at hx
        rcases hx with ⟨hne, h3, A, hv⟩ | ⟨b, N, cap, h3, hv, h4, h5⟩
        · subst h3
          have hl0 : l = 0 := by omega
          have hh0 : h = 0 := by omega
          subst hl0; subst hh0
          exact ⟨_, _, hk, .inl ⟨hne, by simp, _, by simp; rfl⟩, run A 0 0 0 0 hv hl hh h0 h1 h2 (by omega)⟩
        · refine ⟨_, _, hk, ?_, run _ len cap l h hv hl hh h0 h1 h2 h4⟩
          by_cases hcap : cap = l.toNat
          · refine .inl ⟨by rw [h3]; simp, by omega, some ⟨b, off, none⟩, ?_⟩
            rw [if_pos hcap]
            congr 1 <;> omega
          · refine .inr ⟨b, N, cap - l.toNat, h3, ?_, by omega, ?_⟩
            · rw [if_neg hcap]
              simp only [Option.map_some, Addr.add_lit]
              congr 1; omega
            · have : off + l.toNat * i.size + (cap - l.toNat) * i.size = off + cap * i.size := by
                rw [Nat.add_assoc, ← Nat.add_mul]; congr 2; omega
              omega
      · rename_i sz es hev
        obtain ⟨rfl, l, h, hl, hh, h0, h1, h2, hk⟩ := hk
        rw [hev] at hx
        obtain ⟨A, cap, hv, hcap, hne⟩ := repV_ro hx
        refine ⟨_, _, hk, ?_, run A es.length cap l h hv hl hh h0 h1 h2 hcap⟩
        show RepV _ _ _ _
        by_cases hlh : h = l
        · subst hlh
          have e1 : (es.drop h.toNat).take (h - h).toNat = [] := by simp
          have e2 : h.toNat - h.toNat = 0 := by omega
          rw [e1, e2]
          exact .roE _ _ _
        · obtain ⟨b, off, val, rfl, hb, hL, hsz, hcell⟩ := hne (by intro h0; subst h0; simp at h2; omega)
          rw [if_neg (by omega)]
          simp only [Option.map_some, Addr.add_lit]
          have hget : ∀ (j : Nat) (c : List V), ((es.drop l.toNat).take (h - l).toNat)[j]? = some c → es[l.toNat + j]? = some c := fun j c hj => by
            rw [List.getElem?_take] at hj
            split at hj
            · rwa [List.getElem?_drop] at hj
            · cases hj
          have hpos : ∀ j k, off + (l.toNat + j) * i.size + k = off + l.toNat * i.size + j * i.size + k := fun j k => by rw [Nat.add_mul]; omega
          refine .ro b (off + l.toNat * i.size) (h.toNat - l.toNat) (cap - l.toNat) i.size _ (fun j k => val (l.toNat + j) k) (by simp; omega) (by omega) hb hL (fun j c hj => hsz _ c (hget j c hj)) (fun j c hj k x hk => ?_) (fun j c hj k x hk => (hcell _ c (hget j c hj) k x hk).2)
          rw [← hpos]; exact (hcell _ c (hget j c hj) k x hk).1
      · rename_i hev
        obtain ⟨l, h, hl, hh, rfl, rfl, hk⟩ := hk
        rw [hev] at hx
        obtain ⟨A, hv⟩ := hx
        exact ⟨_, _, hk, ⟨_, by simp; rfl⟩, run A 0 0 0 0 hv hl hh (by omega) (by omega) (by omega) (by omega)⟩
      · exact hk.elim
    · rename_i ht
      obtain ⟨y, hy, hc⟩ := opdO hc
      obtain ⟨lo', hlo, hc⟩ := opdO hc
      obtain ⟨hi'', hhi, hc⟩ := opdO hc
      cases hc
      have hx := opd_rep s hy
      simp only [fop] at hk
      split at hk
      · rename_i str hev
        obtain ⟨l, h, hl, hh, h0, h1, h2, hk⟩ := hk
        rw [hev] at hx
        have b1 := s_bnd s hlo hl
        have b2 := s_bnd s hhi hh
        refine ⟨_, _, hk, .str _, fun w' _ => ?_⟩
        have hb := run_bounds (P := P) (isSlice := false) (len := str.length) (cap := str.length) (lo := lo.map a.eval) (hi := hi.map a.eval) (l := l) (h := h)
          (by rcases b1 with ⟨rfl, h⟩ | ⟨x, k, rfl, h⟩; exact .inl ⟨rfl, by simpa using h⟩; exact .inr ⟨k, by simp [h]⟩)
          (by rcases b2 with ⟨rfl, h⟩ | ⟨x, k, rfl, h⟩; exact .inl ⟨rfl, h⟩; exact .inr ⟨k, by simp [h]⟩) h0 h1 (by omega) w'
        rw [repD_str hx]
        have hsz : (⟨str.toArray⟩ : ByteArray).size = str.length := by simp [ByteArray.size]
        have hext : (⟨str.toArray⟩ : ByteArray).extract l.toNat h.toNat = ⟨((str.drop l.toNat).take (h - l).toNat).toArray⟩ := by
          apply ByteArray.ext
          simp only [ByteArray.data_extract]
          apply Array.ext'
          simp only [Array.toList_extract, List.extract_eq_take_drop]
          congr 1; omega
        simp [Instr.sliceAt, Instr.slice, run_underlying ht, hsz, hb, hext]
      · exact hk.elim
    · cases hc

end
end Go.Proofs.YtneiicadhjdbiaaGreat.Ab

namespace Go.Proofs.YtneiicadhjdbiaaGreat.Ab
open Go

section
variable {P : Program} {X : Nat → Prop} {σ : Sg} {m : List Blk} {w : World} {a : Act} {e : Env} {K : D → Prop}

theorem s_fieldAddr {t : TypeId} {x : Operand} {f : Nat} {co : FOp} (hc : compF P (.fieldAddr t x f) = some co) (s : St X σ m w a e) (hk : fop co e m K) :
    ∃ v d, K d ∧ RepD σ (Lv X σ m) w v d ∧ AnsA P w (Instr.fieldAt t (a.eval x) f) v := by
  simp only [compF] at hc
  split at hc
  · rename_i fs ht
    split at hc
    · rename_i fl hfl
      split at hc
      · rename_i i hi
        split at hc
        · cases hc
        · rename_i hsz
          obtain ⟨y, hy, hc⟩ := opdO hc
          cases hc
          have hx := opd_rep s hy
          have run : ∀ b off, a.eval x = .pointer (some ⟨b, off, none⟩) → AnsA P w (Instr.fieldAt t (a.eval x) f) (.pointer (some ⟨b, off + fl.offset, none⟩)) := by
            intro b off hv w' _
            rw [hv]
            simp [Instr.fieldAt, run_underlying ht, hfl, Instr.sureAddr, fieldPlace, run_sizeOf _ hi, Program.cellsOf, hi, hsz, Addr.add_lit]
          simp only [fop] at hk
          split at hk
          · rename_i id off hev
            rw [hev] at hx
            obtain ⟨b, N, h1, h2⟩ := hx
            exact ⟨_, _, hk, ⟨b, N, h1, rfl⟩, run b off h2⟩
          · rename_i vs hev
            rw [hev] at hx
            obtain ⟨b, off, val, h1, h2, h3, h4⟩ := hx
            refine ⟨_, _, hk, ⟨b, off + fl.offset, fun j => val (fl.offset + j), rfl, h2, h3, fun j x hj => ?_⟩, run b off h1⟩
            rw [List.getElem?_drop] at hj
            have := h4 _ _ hj
            exact ⟨by rw [Nat.add_assoc]; exact this.1, this.2⟩
          · exact hk.elim
      · cases hc
    · cases hc
  · cases hc

theorem run_part_agg {t : TypeId} {i : TypeInfo} (ht : isStruct P t = true) (hi : P.info? t = some i) (vs : Array Value) (off : Nat) (w : World) :
    (part t vs off).run P w = .ok (.agg (vs.extract off (off + i.size))) w := by
  have hagg : (isAgg t).run P w = .ok true w := by
    unfold isAgg; unfold isStruct at ht
    cases hu : P.underlying t with
    | none => simp [hu] at ht
    | some d => cases d <;> simp [hu] at ht <;> simp [run_underlying hu]
  simp [part, hagg, run_sizeOf _ hi, Program.cellsOf, hi]

theorem run_part_one {t : TypeId} (ht : isStruct P t = false) (hi : (P.underlying t).isSome = true) {vs : Array Value} {off : Nat} {v : Value} (hv : vs[off]? = some v) (w : World) :
    (part t vs off).run P w = .ok v w := by
  have hagg : (isAgg t).run P w = .ok false w := by
    unfold isAgg; unfold isStruct at ht
    cases hu : P.underlying t with
    | none => simp [hu] at hi
    | some d => cases d <;> simp [hu] at ht <;> simp [run_underlying hu]
  simp [part, hagg, hv]

theorem s_field {t : TypeId} {x : Operand} {f : Nat} {co : FOp} (hc : compF P (.field t x f) = some co) (s : St X σ m w a e) (hk : fop co e m K) :
    ∃ v d, K d ∧ RepD σ (Lv X σ m) w v d ∧ AnsA P w (Instr.field t (a.eval x) f) v := by
  simp only [compF] at hc
  split at hc
  · rename_i fs ht
    split at hc
    · rename_i fl hfl
      split at hc
      · rename_i hst
        obtain ⟨i, hi, hc⟩ := opdO hc
        obtain ⟨y, hy, hc⟩ := opdO hc
        cases hc
        have hx := opd_rep s hy
        simp only [fop] at hk
        split at hk
        · rename_i cs hev
          rw [hev] at hx
          obtain ⟨vs, hv, h1, h2⟩ := hx
          refine ⟨.agg ((vs.drop fl.offset).take i.size).toArray, _, hk.2, ⟨_, rfl, by simp; omega, fun j x hj => ?_⟩, fun w' _ => ?_⟩
          · rw [List.getElem?_take] at hj
            split at hj
            · rename_i hlt
              rw [List.getElem?_drop] at hj
              obtain ⟨u, k1, k2⟩ := h2 _ _ hj
              exact ⟨u, by rw [List.getElem?_take, if_pos hlt, List.getElem?_drop]; exact k1, k2⟩
            · cases hj
          · rw [hv]
            have hext : vs.toArray.extract fl.offset (fl.offset + i.size) = ((vs.drop fl.offset).take i.size).toArray := by
              apply Array.ext'; simp [List.extract_eq_take_drop]
            simp [Instr.field, run_underlying ht, hfl, asAgg, run_part_agg hst hi, hext]
        · exact hk.elim
      · rename_i hst
        split at hc
        · rename_i hsome
          obtain ⟨y, hy, hc⟩ := opdO hc
          cases hc
          have hx := opd_rep s hy
          simp only [Bool.not_eq_true] at hst
          simp only [fop] at hk
          split at hk
          · rename_i cs hev
            rw [hev] at hx
            obtain ⟨vs, hv, h1, h2⟩ := hx
            obtain ⟨c, hcc, hk⟩ := hk
            obtain ⟨u, k1, k2⟩ := h2 _ _ hcc
            refine ⟨u, _, hk, k2, fun w' _ => ?_⟩
            rw [hv]
            have hk1 : vs.toArray[fl.offset]? = some u := by simpa using k1
            simp [Instr.field, run_underlying ht, hfl, asAgg, run_part_one hst hsome hk1]
          · exact hk.elim
        · cases hc
    · cases hc
  · cases hc

theorem s_indexAddr {t : TypeId} {x i : Operand} {co : FOp} (hc : compF P (.indexAddr t x i) = some co) (s : St X σ m w a e) (hk : fop co e m K) :
    ∃ v d, K d ∧ RepD σ (Lv X σ m) w v d ∧ AnsA P w (Instr.indexAt t (a.eval x) (a.eval i)) v := by
  simp only [compF] at hc
  split at hc
  · rename_i el ht
    obtain ⟨inf, hi, hc⟩ := opdO hc
    obtain ⟨y, hy, hc⟩ := opdO hc
    obtain ⟨z, hz, hc⟩ := opdO hc
    cases hc
    have hx := opd_rep s hy
    have hiv := opd_rep s hz
    have run : ∀ b off len cap k n, a.eval x = .slice (some ⟨b, off, none⟩) len cap → a.eval i = .int k n → 0 ≤ n → n < (len : Int) →
        AnsA P w (Instr.indexAt t (a.eval x) (a.eval i)) (.pointer (some ⟨b, off + n.toNat * inf.size, none⟩)) := by
      intro b off len cap k n h1 h2 h3 h4 w' _
      rw [h1, h2]
      simp [Instr.indexAt, run_underlying ht, asIntOf, h3, h4, run_sizeOf _ hi, Program.cellsOf, hi, Addr.add_lit]
    simp only [fop] at hk
    split at hk
    · rename_i sz id off len k n hev hev'
      rw [hev] at hx; rw [hev'] at hiv
      obtain ⟨rfl, h0, h1, hk⟩ := hk
      rcases hx with ⟨_, h3, A, hv⟩ | ⟨b, N, cap, h3, hv, h4⟩
      · omega
      · exact ⟨_, _, hk, ⟨b, N, h3, rfl⟩, run _ _ _ _ _ _ hv (repD_int hiv) h0 h1⟩
    · rename_i sz es k n hev hev'
      rw [hev] at hx; rw [hev'] at hiv
      obtain ⟨rfl, h0, c, hc, hk⟩ := hk
      obtain ⟨A, cap, hv, _, hne⟩ := repV_ro hx
      obtain ⟨b, off, val, rfl, hb, hL, hsz, hcell⟩ := hne (by intro h; subst h; simp at hc)
      have hlt : n < (es.length : Int) := by have := (List.getElem?_eq_some_iff.1 hc).1; omega
      exact ⟨_, _, hk, ⟨b, off + n.toNat * inf.size, val n.toNat, rfl, hb, hL, fun j x hj => hcell _ _ hc j x hj⟩, run _ _ _ _ _ _ hv (repD_int hiv) h0 hlt⟩
    · exact hk.elim
  · cases hc

theorem s_index {t : TypeId} {x i : Operand} {co : FOp} (hc : compF P (.index t x i) = some co) (s : St X σ m w a e) (hk : fop co e m K) :
    ∃ v d, K d ∧ RepD σ (Lv X σ m) w v d ∧ AnsA P w (Instr.index t (a.eval x) (a.eval i)) v := by
  simp only [compF] at hc
  split at hc
  · rename_i ht
    obtain ⟨y, hy, hc⟩ := opdO hc
    obtain ⟨z, hz, hc⟩ := opdO hc
    cases hc
    have hx := opd_rep s hy
    have hiv := opd_rep s hz
    simp only [fop] at hk
    split at hk
    · rename_i str k n hev hev'
      rw [hev] at hx; rw [hev'] at hiv
      obtain ⟨h0, b, hb, hk⟩ := hk
      obtain ⟨hlt, hb'⟩ := List.getElem?_eq_some_iff.1 hb
      refine ⟨_, _, hk, .int _ _, fun w' _ => ?_⟩
      rw [repD_str hx, repD_int hiv, run_index_string w' t _ k n ht]
      have hsz : (⟨str.toArray⟩ : ByteArray).size = str.length := by simp [ByteArray.size]
      rw [dif_pos ⟨h0, by rw [hsz]; omega⟩]
      have hg : (⟨str.toArray⟩ : ByteArray)[n.toNat]'(by rw [hsz]; exact hlt) = b := by
        show (str.toArray)[n.toNat]'(by simpa using hlt) = b
        simpa using hb'
      rw [hg]
    · exact hk.elim
  · cases hc

theorem s_len {ty : TypeId} {c : Call} {co : FOp} (hc : compL P c = some co) (s : St X σ m w a e) (hk : fop co e m K) :
    ∃ v d, K d ∧ RepD σ (Lv X σ m) w v d ∧ ∀ w' : World, True → (do let d ← resolve a.eval c ty; invoke d.target d.args : Sem Next).run P w' = .ok (.value v) w' := by
  obtain ⟨callee, args, argTypes⟩ := c
  obtain ⟨args⟩ := args
  obtain ⟨argTypes⟩ := argTypes
  simp only [compL] at hc
  split at hc
  · split at hc
    · rename_i x t
      split at hc
      · rename_i el ht
        obtain ⟨y, hy, hc⟩ := opdO hc
        cases hc
        have hx := opd_rep s hy
        have run : ∀ A len cap, a.eval x = .slice A len cap → ∀ w' : World, True → (do let d ← resolve a.eval { callee := .builtin .len, args := ⟨[x]⟩, argTypes := ⟨[t]⟩ } ty; invoke d.target d.args : Sem Next).run P w' = .ok (.value (.int .i64 len)) w' := by
          intro A len cap hv w' _
          simp [resolve, invoke, builtin, Builtin.len_, run_underlying ht, hv, goInt]
        simp only [fop] at hk
        split at hk
        · rename_i sz id off len hev
          rw [hev] at hx
          rcases hx with ⟨_, h3, A, hv⟩ | ⟨b, N, cap, h3, hv, h4⟩
          · subst h3; exact ⟨_, _, hk, .int _ _, run _ _ _ hv⟩
          · exact ⟨_, _, hk, .int _ _, run _ _ _ hv⟩
        · rename_i sz es hev
          rw [hev] at hx
          obtain ⟨A, cap, hv, _⟩ := repV_ro hx
          exact ⟨_, _, hk, .int _ _, run _ _ _ hv⟩
        · rename_i hev
          rw [hev] at hx
          obtain ⟨A, hv⟩ := hx
          exact ⟨_, _, hk, .int _ _, run _ _ _ hv⟩
        · exact hk.elim
      · rename_i ht
        obtain ⟨y, hy, hc⟩ := opdO hc
        cases hc
        have hx := opd_rep s hy
        simp only [fop] at hk
        split at hk
        · rename_i str hev
          rw [hev] at hx
          refine ⟨_, _, hk, .int _ _, fun w' _ => ?_⟩
          have hsz : (⟨str.toArray⟩ : ByteArray).size = str.length := List.size_toArray
          simp [resolve, invoke, builtin, Builtin.len_, run_underlying ht, repD_str hx, goInt, hsz]
        · exact hk.elim
      · cases hc
    · cases hc
  any_goals (cases hc; done)
  all_goals
    split at hc
    · rename_i x y
      obtain ⟨x', hx, hc⟩ := opdO hc
      obtain ⟨y', hy, hc⟩ := opdO hc
      cases hc
      have hx := opd_rep s hx
      have hy := opd_rep s hy
      simp only [fop] at hk
      split at hk
      · rename_i k n k' n' hev hev'
        rw [hev] at hx; rw [hev'] at hy
        refine ⟨_, _, hk, .int _ _, fun w' _ => ?_⟩
        simp [resolve, invoke, builtin, repD_int hx, repD_int hy, run_max_int2, run_min_int2]
      · exact hk.elim
    · cases hc

theorem putCells_size : ∀ (xs : List C) (cs : List C) (o : Nat), (putCells cs o xs).length = cs.length
  | [], _, _ => rfl
  | x :: r, cs, o => by rw [putCells, putCells_size r]; simp

theorem putCells_get : ∀ (xs : List C) (cs : List C) (o i : Nat), o + xs.length ≤ cs.length → (putCells cs o xs)[i]? = if o ≤ i ∧ i < o + xs.length then xs[i - o]? else cs[i]?
  | [], cs, o, i, _ => by rw [putCells, if_neg (by simp only [List.length_nil]; omega)]
  | x :: r, cs, o, i, h => by
    simp only [List.length_cons] at h
    rw [putCells, putCells_get r _ (o + 1) i (by simp; omega)]
    by_cases h1 : i = o
    · subst h1
      rw [if_neg (by omega), if_pos ⟨Nat.le_refl _, by simp only [List.length_cons]; omega⟩, Nat.sub_self, List.getElem?_set_self (by omega)]; rfl
    · by_cases h2 : o + 1 ≤ i ∧ i < o + 1 + r.length
      · rw [if_pos h2, if_pos (by simp only [List.length_cons]; omega), show i - o = (i - (o + 1)) + 1 from by omega]; simp
      · rw [if_neg h2, if_neg (by simp only [List.length_cons]; omega), List.getElem?_set_ne (by omega)]

/-- The model's own filling, cell by cell. -/
def putVals : List Value → Nat → List Value → List Value
  | vs, _, [] => vs
  | vs, o, x :: r => putVals (vs.set o x) (o + 1) r

theorem putVals_size : ∀ (xs vs : List Value) (o : Nat), (putVals vs o xs).length = vs.length
  | [], _, _ => rfl
  | x :: r, vs, o => by rw [putVals, putVals_size r]; simp

theorem putVals_get : ∀ (xs vs : List Value) (o i : Nat), o + xs.length ≤ vs.length → (putVals vs o xs)[i]? = if o ≤ i ∧ i < o + xs.length then xs[i - o]? else vs[i]?
  | [], vs, o, i, _ => by rw [putVals, if_neg (by simp only [List.length_nil]; omega)]
  | x :: r, vs, o, i, h => by
    simp only [List.length_cons] at h
    rw [putVals, putVals_get r _ (o + 1) i (by simp; omega)]
    by_cases h1 : i = o
    · subst h1
      rw [if_neg (by omega), if_pos ⟨Nat.le_refl _, by simp only [List.length_cons]; omega⟩, Nat.sub_self, List.getElem?_set_self (by omega)]; rfl
    · by_cases h2 : o + 1 ≤ i ∧ i < o + 1 + r.length
      · rw [if_pos h2, if_pos (by simp only [List.length_cons]; omega), show i - o = (i - (o + 1)) + 1 from by omega]; simp
      · rw [if_neg h2, if_neg (by simp only [List.length_cons]; omega), List.getElem?_set_ne (by omega)]

theorem foldl_put (xs : List Value) : ∀ (o k : Nat) (cur : Array Value),
    ((xs.zipIdx k).foldl (fun (cs : Array Value) (p : Value × Nat) => cs.setIfInBounds (o + p.2) p.1) cur).toList = putVals cur.toList (o + k) xs := by
  induction xs with
  | nil => intro o k cur; rfl
  | cons x r ih =>
    intro o k cur
    simp only [List.zipIdx_cons, List.foldl_cons, putVals]
    rw [ih o (k + 1) _, Array.toList_setIfInBounds, Nat.add_assoc]

theorem repCs_put {L : Nat → Prop} {vs : List Value} {cs : List C} {us : List Value} {xs : List C} {o : Nat} (h : RepCs σ L w vs cs) (h' : RepCs σ L w us xs) (ho : o + xs.length ≤ cs.length) : RepCs σ L w (putVals vs o us) (putCells cs o xs) := by
  refine ⟨by rw [putVals_size, putCells_size]; exact h.1, fun i x hx => ?_⟩
  rw [putCells_get _ _ _ _ ho] at hx
  rw [putVals_get _ _ _ _ (by rw [h.1, h'.1]; exact ho), h'.1]
  by_cases hc : o ≤ i ∧ i < o + xs.length
  · rw [if_pos hc] at hx ⊢; exact h'.2 _ _ hx
  · rw [if_neg hc] at hx ⊢; exact h.2 _ _ hx

theorem repD_cells {L : Nat → Prop} {v : Value} {d : D} {cs : List C} (h : RepD σ L w v d) (hc : cellsD d = some cs) : RepCs σ L w v.cells.toList cs := by
  unfold cellsD at hc
  split at hc
  · cases hc
    rename_i x
    have h1 : v.cells = #[v] := by
      have := RepC.one h
      cases v <;> first | rfl | (cases this)
    rw [h1]
    exact ⟨rfl, fun i y hy => by cases i <;> simp at hy; subst hy; exact ⟨v, rfl, h⟩⟩
  · cases hc
    obtain ⟨vs, rfl, h2⟩ := h
    exact h2
  · cases hc

theorem s_fill (s : St X σ m w a e) (fs : Array Field) (place : Nat → Option (Nat × Nat)) (hp : ∀ (i : Nat) (fl : Field) (inf : TypeInfo), fs[i]? = some fl → P.info? fl.type = some inf → place i = some (fl.offset, inf.size)) :
    ∀ (parts : List (Nat × Operand)) (ps : List (Nat × Nat × Opd)) (vs : List Value) (cs cs' : List C),
      (parts.mapM fun (x : Nat × Operand) => (do let fl ← fs[x.1]?; some (fl.offset, (← P.info? fl.type).size, ← copd x.2) : Option (Nat × Nat × Opd))) = some ps →
      RepCs σ (Lv X σ m) w vs cs → buildC e cs ps = some cs' → ∃ vs', Instr.fill place vs.toArray (parts.map fun (x : Nat × Operand) => (x.1, a.eval x.2)) = some vs'.toArray ∧ RepCs σ (Lv X σ m) w vs' cs'
  | [], ps, vs, cs, cs', h, hr, hb => by
    simp only [List.mapM_nil] at h
    cases h
    simp only [buildC] at hb
    cases hb
    exact ⟨vs, rfl, hr⟩
  | (i, x) :: rest, ps, vs, cs, cs', h, hr, hb => by
    rw [List.mapM_cons] at h
    obtain ⟨p, hp', h⟩ := opdO h
    obtain ⟨ps', hps, h⟩ := opdO h
    cases h
    obtain ⟨fl, hfl, hp'⟩ := opdO hp'
    obtain ⟨inf, hinf, hp'⟩ := opdO hp'
    obtain ⟨y, hy, hp'⟩ := opdO hp'
    cases hp'
    simp only [buildC] at hb
    split at hb
    · rename_i xs hxs
      split at hb
      · rename_i hsz
        have hx := repD_cells (opd_rep s hy) hxs
        obtain ⟨vs', k1, k2⟩ := s_fill s fs place hp rest ps' (putVals vs fl.offset (a.eval x).cells.toList) _ cs' hps (repCs_put hr hx (by rw [hsz.1]; exact hsz.2)) hb
        refine ⟨vs', ?_, k2⟩
        have hsize : (a.eval x).cells.size = inf.size := by have := hx.1; simp at this; omega
        have hvs : vs.length = cs.length := hr.1
        have hfold := foldl_put (a.eval x).cells.toList fl.offset 0 vs.toArray
        simp only [Nat.add_zero] at hfold
        simp only [List.map_cons, Instr.fill, hp i fl inf hfl hinf]
        rw [if_neg (by simp [hsize]; omega)]
        have hz : (a.eval x).cells.zipIdx.foldl (fun (cs : Array Value) (p : Value × Nat) => cs.setIfInBounds (fl.offset + p.2) p.1) vs.toArray = (putVals vs fl.offset (a.eval x).cells.toList).toArray := by
          apply Array.ext'
          rw [← Array.foldl_toList, Array.toList_zipIdx]
          simpa using hfold
        rw [← k1]
        congr 1
      · cases hb
    · cases hb

theorem zeroOf_rep {L : Nat → Prop} {v : Value} {cs : List C} (h : zeroOf (some v) = some cs) : RepCs σ L w v.cells.toList cs := by
  have list : ∀ (vs : List Value) (cs : List C), vs.mapM constV = some cs → RepCs σ L w vs cs := by
    intro vs
    induction vs with
    | nil => intro cs h; simp only [List.mapM_nil] at h; cases h; exact ⟨rfl, fun i x hx => by simp at hx⟩
    | cons u r ih =>
      intro cs h
      rw [List.mapM_cons] at h
      obtain ⟨c, hc, h⟩ := opdO h
      obtain ⟨cs', hcs, h⟩ := opdO h
      cases h
      obtain ⟨k1, k2⟩ := ih cs' hcs
      refine ⟨by simp [k1], fun i x hx => ?_⟩
      cases i with
      | zero => simp at hx; subst hx; exact ⟨u, rfl, constV_rep hc σ L w⟩
      | succ i => simp at hx; simpa using k2 i x hx
  cases v with
  | agg vs => exact list _ _ h
  | _ =>
    simp only [zeroOf, Option.map_eq_some_iff] at h
    obtain ⟨c, hc, rfl⟩ := h
    exact ⟨rfl, fun i y hy => by cases i <;> simp at hy; subst hy; exact ⟨_, rfl, constV_rep hc σ L w⟩⟩

end
end Go.Proofs.YtneiicadhjdbiaaGreat.Ab

namespace Go.Proofs.YtneiicadhjdbiaaGreat.Ab
open Go

section
variable {P : Program} {X : Nat → Prop} {σ : Sg} {m : List Blk} {w : World} {a : Act} {e : Env} {K : D → Prop}

theorem s_build {t : TypeId} {parts : Array (Nat × Operand)} {co : FOp} (hc : compF P (.build t parts) = some co) (s : St X σ m w a e) (hk : fop co e m K) :
    ∃ v d, K d ∧ RepD σ (Lv X σ m) w v d ∧ AnsA P w (Instr.build t (parts.map fun (i, x) => (i, a.eval x))) v := by
  simp only [compF] at hc
  split at hc
  · rename_i fs ht
    split at hc
    rotate_left
    · cases hc
    rename_i hallB
    have hall : ∀ fl, fl ∈ fs.toList → ∃ inf, P.info? fl.type = some inf := fun fl hfl => Option.isSome_iff_exists.mp (List.all_eq_true.1 hallB fl hfl)
    obtain ⟨z, hz, hc⟩ := opdO hc
    obtain ⟨ps, hps, hc⟩ := opdO hc
    cases hc
    simp only [fop] at hk
    split at hk
    · rename_i cs hb
      cases hi : P.info? t with
      | none => simp [hi, zeroOf] at hz
      | some inf =>
        cases hzv : inf.zero with
        | none => simp [hi, hzv, zeroOf] at hz
        | some zv =>
          simp only [hi, Option.bind_some, hzv] at hz
          have hzr : RepCs σ (Lv X σ m) w zv.cells.toList z := zeroOf_rep hz
          -- the places of the fields
          have places : ∀ (l : List Field) (w' : World), (∀ fl, fl ∈ l → ∃ inf, P.info? fl.type = some inf) →
              (l.mapM fun (f : Field) => (do pure (f.offset, ← sizeOf f.type) : Sem (Nat × Nat))).run P w' = .ok (l.map fun f => (f.offset, P.cellsOf f.type)) w' := by
            intro l
            induction l with
            | nil => intro w' _; simp
            | cons f r ih =>
              intro w' hall
              obtain ⟨inf, hinf⟩ := hall f (by simp)
              have := ih w' fun fl hfl => hall fl (by simp [hfl])
              simp only [List.mapM_cons, Sem.run_bind, run_sizeOf _ hinf, this, Result.andThen_ok, Sem.run_pure, List.map_cons]
          · obtain ⟨vs', h1, h2⟩ := s_fill s fs (fun i => ((fs.toList.map fun f => (f.offset, P.cellsOf f.type)).toArray)[i]?)
              (fun i fl inf hfl hinf => by simp [hfl, Program.cellsOf, hinf]) parts.toList ps zv.cells.toList z cs hps hzr hb
            refine ⟨.agg vs'.toArray, _, hk, ⟨_, rfl, h2⟩, fun w' _ => ?_⟩
            have hpl := places fs.toList w' hall
            have hpl' : (fs.mapM fun (f : Field) => (do pure (f.offset, ← sizeOf f.type) : Sem (Nat × Nat))).run P w' = .ok (fs.toList.map fun f => (f.offset, P.cellsOf f.type)).toArray w' := by
              conv => lhs; rw [← Array.toArray_toList (xs := fs)]
              rw [List.mapM_toArray, Sem.run_map, hpl]; rfl
            have hzero : (zeroValue t).run P w' = .ok zv w' := by simp [zeroValue, run_typeInfo _ hi, hzv]
            simp only [Instr.build, Sem.run_bind, hzero, Result.andThen_ok, run_underlying ht, hpl']
            simp only [Array.toList_map]
            have h1' : Instr.fill (fun i => ((fs.toList.map fun f => (f.offset, P.cellsOf f.type)).toArray)[i]?) zv.cells (parts.toList.map fun (x : Nat × Operand) => (x.1, a.eval x.2)) = some vs'.toArray := by simpa using h1
            rw [h1']; rfl
    · exact hk.elim
  · cases hc

theorem foldl_push : ∀ (ns : List Int) (b : ByteArray), ns.foldl (fun r n => r.push (UInt8.ofNat n.toNat)) b = ⟨(b.data.toList ++ ns.map fun n => UInt8.ofNat n.toNat).toArray⟩
  | [], b => by simp
  | n :: r, b => by
    rw [List.foldl_cons, foldl_push r]
    simp [ByteArray.push]

theorem strOf_rep : ∀ (cs : List C) (s : List UInt8) (vs : List Value), strOf cs = some s → RepCs σ (Lv X σ m) w vs cs → ∃ ns : List Int, vs = ns.map (Value.int .u8) ∧ s = ns.map fun n => UInt8.ofNat n.toNat
  | [], s, vs, h, hr => by
    simp only [strOf, Option.some.injEq] at h
    subst h
    exact ⟨[], by simpa using hr.1, rfl⟩
  | x :: r, s, vs, h, hr => by
    cases vs with
    | nil => have := hr.1; simp at this
    | cons u us =>
      have hr' : RepCs σ (Lv X σ m) w us r := ⟨by simpa using hr.1, fun i y hy => by simpa using hr.2 (i + 1) y (by simpa using hy)⟩
      unfold strOf at h
      split at h
      · rename_i heq; cases heq
      · rename_i n r' heq
        cases heq
        simp only [Option.map_eq_some_iff] at h
        obtain ⟨s', hs', rfl⟩ := h
        obtain ⟨ns, h1, h2⟩ := strOf_rep r s' us hs' hr'
        obtain ⟨u', q1, q2⟩ := hr.2 0 _ rfl
        simp at q1; subst q1
        have q2 : RepV _ _ u (.int .u8 n) := q2
        cases q2
        exact ⟨n :: ns, by simp [h1], by simp [h2]⟩
      · cases h

theorem andThen_v {s : Sem Value} {v : Value} {w' : World} (h : s.run P w' = .ok v w') : (do pure (Next.value (← s)) : Sem Next).run P w' = .ok (.value v) w' := by
  simp [h]

/-- It looks at no memory. -/
def pureF : FOp → Bool
  | .ld _ _ => false
  | .ld1 _ => false
  | .bstr _ => false
  | _ => true

/-- An operation that changes no memory: one value, now and in every memory that has only grown. -/
theorem f_sound {o : Oper} {co : FOp} (hc : compF P o.op = some co) (s : St X σ m w a e) (hk : fop co e m K) :
    ∃ v d, K d ∧ RepD σ (Lv X σ m) w v d ∧ ∀ w', (pureF co = true ∨ Grow w w') → (execOp a.eval o).run P w' = .ok (.value v) w' := by
  obtain ⟨dst, op, ty, pos, after, guard⟩ := o
  have fin : ∀ (sv : Sem Value), (∃ v d, K d ∧ RepD σ (Lv X σ m) w v d ∧ AnsA P w sv v) →
      (∀ w', (execOp a.eval ⟨dst, op, ty, pos, after, guard⟩).run P w' = (do pure (Next.value (← sv)) : Sem Next).run P w') →
      ∃ v d, K d ∧ RepD σ (Lv X σ m) w v d ∧ ∀ w', (pureF co = true ∨ Grow w w') → (execOp a.eval ⟨dst, op, ty, pos, after, guard⟩).run P w' = .ok (.value v) w' := by
    rintro sv ⟨v, d, h1, h2, h3⟩ h
    exact ⟨v, d, h1, h2, fun w' _ => by rw [h]; exact andThen_v (h3 w' trivial)⟩
  have mv : ∀ x, ∀ co, (copd x).map FOp.mv = some co → fop co e m K → ∃ v d, K d ∧ RepD σ (Lv X σ m) w v d ∧ v = a.eval x := by
    intro x co hc hk
    simp only [Option.map_eq_some_iff] at hc
    obtain ⟨y, hy, rfl⟩ := hc
    exact ⟨_, _, hk, opd_rep s hy, rfl⟩
  cases op with
  | move x => obtain ⟨v, d, h1, h2, rfl⟩ := mv x co hc hk; exact ⟨_, _, h1, h2, fun w' _ => rfl⟩
  | assign x => obtain ⟨v, d, h1, h2, rfl⟩ := mv x co hc hk; exact ⟨_, _, h1, h2, fun w' _ => rfl⟩
  | pick c x y =>
    simp only [compF] at hc
    obtain ⟨c', hcc, hc⟩ := opdO hc
    obtain ⟨x', hx, hc⟩ := opdO hc
    obtain ⟨y', hy, hc⟩ := opdO hc
    cases hc
    have h0 := opd_rep s hcc
    simp only [fop] at hk
    split at hk
    · rename_i b hev
      rw [hev] at h0
      have hb := repD_bool h0
      refine ⟨if b = true then a.eval x else a.eval y, _, hk, ?_, fun w' _ => by simp [execOp, hb, asBool]⟩
      cases b
      · exact opd_rep s hy
      · exact opd_rep s hx
    · exact hk.elim
  | load t x =>
    have hp : pureF co = false := by
      simp only [compF] at hc
      split at hc
      · obtain ⟨_, _, hc⟩ := opdO hc; obtain ⟨_, _, hc⟩ := opdO hc; cases hc; rfl
      · split at hc
        · obtain ⟨_, _, hc⟩ := opdO hc; cases hc; rfl
        · cases hc
    obtain ⟨v, d, h1, h2, h3⟩ := s_load hc s hk
    exact ⟨v, d, h1, h2, fun w' g => andThen_v (h3 w' (g.resolve_left (by rw [hp]; simp)))⟩
  | nilCheck x =>
    simp only [compF] at hc
    obtain ⟨x', hx, hc⟩ := opdO hc
    cases hc
    have h0 := opd_rep s hx
    simp only [fop] at hk
    split at hk
    · rename_i id off hev
      rw [hev] at h0
      obtain ⟨b, N, h1, h2⟩ := h0
      exact ⟨_, _, hk, ⟨b, N, h1, rfl⟩, fun w' _ => by simp [execOp, h2]⟩
    · rename_i vs hev
      rw [hev] at h0
      obtain ⟨b, off, val, h1, h2⟩ := h0
      exact ⟨_, _, hk, ⟨b, off, val, rfl, h2⟩, fun w' _ => by simp [execOp, h1]⟩
    · exact hk.elim
  | binOp op t x y yt => exact fin _ (s_bin hc s hk) fun _ => rfl
  | unOp op t x =>
    cases op <;> simp only [compF] at hc
    any_goals (cases hc; done)
    all_goals
      obtain ⟨x', hx, hc⟩ := opdO hc
      cases hc
      have h0 := opd_rep s hx
      simp only [fop] at hk
      split at hk
    · rename_i k n hev
      rw [hev] at h0
      exact ⟨_, _, hk, .int _ _, fun w' _ => by simp [execOp, repD_int h0, Op.unary, Op.intArith]⟩
    · exact hk.elim
    · rename_i b hev
      rw [hev] at h0
      exact ⟨_, _, hk, .bool _, fun w' _ => by simp [execOp, repD_bool h0, Op.unary]⟩
    · exact hk.elim
  | convert src dst x =>
    simp only [compF] at hc
    split at hc
    · rename_i k k' h1 h2
      obtain ⟨x', hx, hc⟩ := opdO hc
      cases hc
      have h0 := opd_rep s hx
      simp only [fop] at hk
      split at hk
      · rename_i hev
        rw [hev] at h0
        exact ⟨_, _, hk, .int _ _, fun w' _ => by simp [execOp, repD_int h0, convert, run_underlying h1, run_underlying h2, Conv.intToInt]⟩
      · exact hk.elim
    · rename_i h1 h2
      obtain ⟨x', hx, hc⟩ := opdO hc
      cases hc
      have h0 := opd_rep s hx
      simp only [fop] at hk
      split at hk
      · rename_i hev
        rw [hev] at h0
        exact ⟨_, _, hk, .str _, fun w' _ => by simp [execOp, repD_str h0, convert, run_underlying h1, run_underlying h2]⟩
      · exact hk.elim
    · rename_i el h1 h2
      split at hc
      · rename_i h3
        obtain ⟨x', hx, hc⟩ := opdO hc
        cases hc
        have h0 := opd_rep s hx
        simp only [fop] at hk
        split at hk
        · rename_i sz id off len hev
          rw [hev] at h0
          obtain ⟨rfl, cs, hcs, st, hst, hk⟩ := hk
          rcases h0 with ⟨hne, rfl, A, hv⟩ | ⟨b, N, cap, q1, hv, q2, q3⟩
          · have hnil : cs = [] := by
              have := rdm_len hcs
              exact List.eq_nil_of_length_eq_zero this
            subst hnil
            simp only [strOf, Option.some.injEq] at hst
            subst hst
            refine ⟨_, _, hk, .str _, fun w' _ => ?_⟩
            have hconv := run_convert_bytes_string (P := P) w' src dst el A 0 0 h1 h3 h2
            show (do pure (Next.value (← convert src dst (a.eval x))) : Sem Next).run P w' = _
            refine andThen_v ?_
            rw [hv, hconv]
            cases A with
            | none => rfl
            | some A0 =>
              have := run_bytesToString (P := P) w' A0 0 0 [] (by simp [loadCells, loadCellsFrom])
              rw [this]; rfl
          · obtain ⟨vs, p1, p2, p3⟩ := own_cells s.mem q1 hcs
            obtain ⟨ns, r1, r2⟩ := strOf_rep cs st vs hst p2
            refine ⟨_, _, hk, .str _, fun w' g => ?_⟩
            have g := g.resolve_left (by simp [pureF])
            have hconv := run_convert_bytes_string (P := P) w' src dst el (some ⟨b, off, none⟩) len cap h1 h3 h2
            show (do pure (Next.value (← convert src dst (a.eval x))) : Sem Next).run P w' = _
            refine andThen_v ?_
            rw [hv, hconv]
            have hl : (loadCells ⟨b, off, none⟩ vs.length).run P w' = .ok vs.toArray w' := run_loadCells_list w' _ vs fun j v hv => by
              have := g.cell (p3 j v hv)
              rw [show (Addr.add ⟨b, off, none⟩ j) = ⟨b, off + j, none⟩ from Addr.add_lit b off j]; exact this
            rw [p1] at hl
            rw [run_bytesToString (P := P) w' ⟨b, off, none⟩ len cap ns (by rw [hl, r1])]
            rw [foldl_push, r2]; simp
        · exact hk.elim
      · cases hc
    · cases hc
  | makeFunc fn first caps =>
    cases fn <;> simp only [compF] at hc
    any_goals (cases hc; done)
    rename_i f
    split at hc
    · rename_i hemp
      obtain ⟨ys, hys, hc⟩ := opdO hc
      cases hc
      simp only [fop] at hk
      split at hk
      · rename_i l hl
        obtain ⟨k1, k2⟩ := s_caps s caps.toList ys l hys hl
        have hfirst : first = #[] := by
          have h9 := List.isEmpty_iff.1 hemp
          exact Array.toList_inj.1 h9
        subst hfirst
        refine ⟨_, _, hk, ⟨caps.map a.eval, rfl, by simpa using k1, fun i p hp => ?_⟩, fun w' _ => by simp [execOp, Instr.makeFunc]⟩
        obtain ⟨b, N, h1, h2⟩ := k2 i p hp
        exact ⟨b, N, h1, by simpa using h2⟩
      · exact hk.elim
    · cases hc
  | slice t x lo hi mx => exact fin _ (s_slice hc s hk) fun _ => rfl
  | fieldAddr t x f => exact fin _ (s_fieldAddr hc s hk) fun _ => rfl
  | field t x f => exact fin _ (s_field hc s hk) fun _ => rfl
  | indexAddr t x i => exact fin _ (s_indexAddr hc s hk) fun _ => rfl
  | index t x i => exact fin _ (s_index hc s hk) fun _ => rfl
  | extract x i =>
    simp only [compF] at hc
    obtain ⟨x', hx, hc⟩ := opdO hc
    cases hc
    have h0 := opd_rep s hx
    simp only [fop] at hk
    split at hk
    · rename_i xs hev
      rw [hev] at h0
      obtain ⟨vs, hv, h1, h2⟩ := h0
      obtain ⟨t, ht, hk⟩ := hk
      obtain ⟨u, k1, k2⟩ := h2 _ _ ht
      exact ⟨u, _, hk, k2, fun w' _ => by simp [execOp, hv, Instr.extract, k1]⟩
    · exact hk.elim
  | call c =>
    obtain ⟨v, d, h1, h2, h3⟩ := s_len hc s hk
    exact ⟨v, d, h1, h2, fun w' _ => h3 w' trivial⟩
  | build t parts => exact fin _ (s_build hc s hk) fun _ => rfl
  | _ => simp [compF] at hc

end
end Go.Proofs.YtneiicadhjdbiaaGreat.Ab

namespace Go.Proofs.YtneiicadhjdbiaaGreat.Ab
open Go

def up (σ : Sg) (id : Nat) (p : Option (Nat × Nat)) : Sg := fun i => if i = id then some p else σ i

section
variable {P : Program} {X : Nat → Prop} {σ : Sg} {m : List Blk} {w : World}

theorem up_same (σ : Sg) (id : Nat) (p : Option (Nat × Nat)) : up σ id p id = some p := by simp [up]
theorem up_other (σ : Sg) {id i : Nat} (p : Option (Nat × Nat)) (h : i ≠ id) : up σ id p i = σ i := by simp [up, h]

theorem own_lt (hm : MemOk X σ m w) {b : Nat} (h : Own σ m b) : b < w.heap.size := by
  obtain ⟨id, cs, N, h1, h2⟩ := h
  rcases hm.blk id cs h1 with ⟨h3, _⟩ | ⟨b', N', h3, c, e, h4, _⟩
  · rw [h2] at h3; cases h3
  · rw [h2] at h3; cases h3
    rcases Nat.lt_or_ge b w.heap.size with h | h
    · exact h
    · rw [Array.getElem?_eq_none h] at h4; cases h4

theorem lv_lt (hm : MemOk X σ m w) {b : Nat} (h : Lv X σ m b) : b < w.heap.size := h.elim (fun h => (hm.far b h).1) (own_lt hm)

/-- The world may have drawn from the tape. -/
structure Same (w w' : World) : Prop where
  heap : w'.heap = w.heap
  os : w'.os = w.os
  tape : w'.tape = w.tape
  output : w'.output = w.output

theorem Same.tr {n : Nat} {w' : World} (h : Same w w') : Tr n σ m w σ m w' :=
  ⟨fun _ _ => rfl, h.os, h.tape, h.output, by rw [h.heap]; exact Nat.le_refl _, fun _ _ _ => by rw [h.heap], fun _ h => .inl h⟩

theorem Same.mem {w' : World} (h : Same w w') (hm : MemOk X σ m w) : MemOk X σ m w' := by
  have g : Chg σ (Lv X σ m) w σ (Lv X σ m) w' := ⟨fun _ _ h => h, by rw [h.heap]; exact Nat.le_refl _, fun b _ hL => ⟨hL, by rw [h.heap]⟩⟩
  refine ⟨fun id cs hid => ?_, hm.inj, fun b hb => by rw [h.heap]; exact hm.far b hb, hm.out⟩
  rcases hm.blk id cs hid with h1 | ⟨b, N, h1, c, e, h2, h3, h4, h5⟩
  · exact .inl h1
  · exact .inr ⟨b, N, h1, c, e, by rw [h.heap]; exact h2, h3, h4, fun j x hj => let ⟨v, k1, k2⟩ := h5 j x hj; ⟨v, k1, k2.mono g⟩⟩

theorem getElem?_snoc {α : Type} (l : List α) (x : α) (i : Nat) : (l ++ [x])[i]? = if i = l.length then some x else l[i]? := by
  by_cases h : i = l.length
  · subst h; simp
  · rw [if_neg h]
    rcases Nat.lt_or_ge i l.length with h1 | h1
    · rw [List.getElem?_append_left h1]
    · rw [List.getElem?_eq_none (by simp; omega), List.getElem?_eq_none (by omega)]

theorem own_new {cs : List C} {p : Option (Nat × Nat)} {b : Nat} (h : Own (up σ m.length p) (m ++ [.cells cs]) b) : Own σ m b ∨ ∃ N, p = some (b, N) := by
  obtain ⟨id, cs', N, h1, h2⟩ := h
  rw [getElem?_snoc] at h1
  split at h1
  · rename_i h; subst h; rw [up_same] at h2; cases h2; exact .inr ⟨_, rfl⟩
  · rename_i h; rw [up_other _ _ h] at h2; exact .inl ⟨id, cs', N, h1, h2⟩

/-- A new block. -/
theorem mem_new (hm : MemOk X σ m w) {c : Array Value} {cs : List C} (ty : TypeId) (hcs : cs.length ≤ c.size) (hr : ∀ (j : Nat) (x : C), cs[j]? = some x → ∃ v, c[j]? = some v ∧ RepC σ (Lv X σ m) w v x) :
    MemOk X (up σ m.length (some (w.heap.size, c.size))) (m ++ [.cells cs]) (w.alloc (.cells c ty)) ∧
    Tr m.length σ m w (up σ m.length (some (w.heap.size, c.size))) (m ++ [.cells cs]) (w.alloc (.cells c ty)) := by
  have hold : ∀ b, b < w.heap.size → (w.alloc (.cells c ty)).heap[b]? = w.heap[b]? := fun b hb => by
    show (w.heap.push _)[b]? = _
    rw [Array.getElem?_push, if_neg (by omega)]
  have tr : Tr m.length σ m w (up σ m.length (some (w.heap.size, c.size))) (m ++ [.cells cs]) (w.alloc (.cells c ty)) :=
    ⟨fun id hid => up_other _ _ (by omega), rfl, rfl, rfl, by simp, fun b hb _ => hold b hb, fun b hb => (own_new hb).imp id (fun ⟨N, h⟩ => by cases h; exact Nat.le_refl _)⟩
  refine ⟨?_, tr⟩
  have g := tr.chg hm
  refine ⟨fun id cs' hid => ?_, fun id id' b N N' cs' cs'' h1 h2 h3 h4 => ?_, fun b hb => ⟨by have := (hm.far b hb).1; simp; omega, fun ho => ?_⟩, fun id hid => ?_⟩
  · rw [getElem?_snoc] at hid
    split at hid
    · rename_i h; subst h; cases hid
      refine .inr ⟨w.heap.size, c.size, up_same _ _ _, c, ty, ?_, rfl, hcs, fun j x hj => let ⟨v, k1, k2⟩ := hr j x hj; ⟨v, k1, k2.mono g⟩⟩
      show (w.heap.push _)[w.heap.size]? = _
      simp
    · rename_i h
      rcases hm.blk id cs' hid with ⟨k1, k2⟩ | ⟨b, N, k1, c', e, k2, k3, k4, k5⟩
      · exact .inl ⟨by rw [up_other _ _ h]; exact k1, k2⟩
      · refine .inr ⟨b, N, by rw [up_other _ _ h]; exact k1, c', e, ?_, k3, k4, fun j x hj => let ⟨v, q1, q2⟩ := k5 j x hj; ⟨v, q1, q2.mono g⟩⟩
        rw [hold b (own_lt hm ⟨id, cs', N, hid, k1⟩)]; exact k2
  · rw [getElem?_snoc] at h1 h2
    split at h1 <;> split at h2
    · omega
    · rename_i k1 k2
      subst k1; rw [up_same] at h3; cases h3
      rw [up_other _ _ k2] at h4
      have := own_lt hm ⟨id', cs'', N', h2, h4⟩
      omega
    · rename_i k1 k2
      subst k2; rw [up_same] at h4; cases h4
      rw [up_other _ _ k1] at h3
      have := own_lt hm ⟨id, cs', N, h1, h3⟩
      omega
    · rename_i k1 k2
      rw [up_other _ _ k1] at h3; rw [up_other _ _ k2] at h4
      exact hm.inj id id' b N N' cs' cs'' h1 h2 h3 h4
  · have h1 := hm.far b hb
    rcases own_new ho with h | h
    · exact h1.2 h
    · obtain ⟨N, h⟩ := h; cases h; omega
  · simp only [List.length_append, List.length_cons, List.length_nil] at hid
    rw [up_other _ _ (by omega)]; exact hm.out id (by omega)

/-- A new name for nothing: a slice without room. -/
theorem mem_empty (hm : MemOk X σ m w) : MemOk X (up σ m.length none) (m ++ [.cells []]) w ∧ Tr m.length σ m w (up σ m.length none) (m ++ [.cells []]) w := by
  have hown : ∀ b, Own (up σ m.length none) (m ++ [.cells []]) b → Own σ m b := fun b hb => (own_new hb).elim id fun ⟨N, h⟩ => by cases h
  have tr : Tr m.length σ m w (up σ m.length none) (m ++ [.cells []]) w := ⟨fun id hid => up_other _ _ (by omega), rfl, rfl, rfl, Nat.le_refl _, fun _ _ _ => rfl, fun b hb => .inl (hown b hb)⟩
  refine ⟨?_, tr⟩
  have g := tr.chg hm
  refine ⟨fun id cs hid => ?_, fun id id' b N N' cs' cs'' h1 h2 h3 h4 => ?_, fun b hb => ⟨(hm.far b hb).1, fun ho => (hm.far b hb).2 (hown b ho)⟩, fun id hid => ?_⟩
  · rw [getElem?_snoc] at hid
    split at hid
    · rename_i h; subst h; cases hid; exact .inl ⟨up_same _ _ _, rfl⟩
    · rename_i h
      rcases hm.blk id cs hid with ⟨k1, k2⟩ | ⟨b, N, k1, c', e, k2, k3, k4, k5⟩
      · exact .inl ⟨by rw [up_other _ _ h]; exact k1, k2⟩
      · exact .inr ⟨b, N, by rw [up_other _ _ h]; exact k1, c', e, k2, k3, k4, fun j x hj => let ⟨v, q1, q2⟩ := k5 j x hj; ⟨v, q1, q2.mono g⟩⟩
  · rw [getElem?_snoc] at h1 h2
    split at h1
    · rename_i k; subst k; rw [up_same] at h3; cases h3
    · rename_i k
      split at h2
      · rename_i k'; subst k'; rw [up_same] at h4; cases h4
      · rename_i k'
        rw [up_other _ _ k] at h3; rw [up_other _ _ k'] at h4
        exact hm.inj id id' b N N' cs' cs'' h1 h2 h3 h4
  · simp only [List.length_append, List.length_cons, List.length_nil] at hid
    rw [up_other _ _ (by omega)]; exact hm.out id (by omega)

theorem setRow_other (w : World) (b : Nat) (c : Array Value) {k : Nat} (h : k ≠ b) : (w.setRow b c).heap[k]? = w.heap[k]? := by
  simp only [World.setRow, Array.getElem?_modify]
  rw [if_neg (Ne.symm h)]

theorem setRow_size (w : World) (b : Nat) (c : Array Value) : (w.setRow b c).heap.size = w.heap.size := by simp [World.setRow]

/-- What lies in a block is written. -/
theorem mem_write (hm : MemOk X σ m w) {id b N : Nat} {cs cs' : List C} {c c' : Array Value} {e : TypeId} (hid : m[id]? = some (.cells cs)) (hs : σ id = some (some (b, N))) (hg : w.heap[b]? = some (.cells c e (0, 0)))
    (hN : c'.size = N) (hcs : cs'.length ≤ c'.size) (hr : ∀ (j : Nat) (x : C), cs'[j]? = some x → ∃ v, c'[j]? = some v ∧ RepC σ (Lv X σ m) w v x) :
    MemOk X σ (m.set id (.cells cs')) (w.setRow b c') ∧ Tr m.length σ m w σ (m.set id (.cells cs')) (w.setRow b c') := by
  have hlt : id < m.length := (List.getElem?_eq_some_iff.1 hid).1
  have get : ∀ i q, (m.set id (.cells cs'))[i]? = some (.cells q) → (i = id ∧ q = cs') ∨ (i ≠ id ∧ m[i]? = some (.cells q)) := fun i q h => by
    by_cases hi : i = id
    · subst hi; rw [List.getElem?_set_self hlt] at h; cases h; exact .inl ⟨rfl, rfl⟩
    · rw [List.getElem?_set_ne (Ne.symm hi)] at h; exact .inr ⟨hi, h⟩
  have hown : ∀ k, Own σ (m.set id (.cells cs')) k → Own σ m k := fun k ⟨i, q, N', h1, h2⟩ => by
    rcases get i q h1 with ⟨rfl, rfl⟩ | ⟨_, h⟩
    · exact ⟨i, cs, N', hid, h2⟩
    · exact ⟨i, q, N', h, h2⟩
  have tr : Tr m.length σ m w σ (m.set id (.cells cs')) (w.setRow b c') :=
    ⟨fun _ _ => rfl, rfl, rfl, rfl, by rw [setRow_size]; exact Nat.le_refl _, fun k hk ho => setRow_other w b c' fun h => ho (h ▸ ⟨id, cs, N, hid, hs⟩), fun k hk => .inl (hown k hk)⟩
  refine ⟨?_, tr⟩
  have g := tr.chg hm
  refine ⟨fun i q hi => ?_, fun i i' b' N' N'' q q' h1 h2 h3 h4 => ?_, fun k hk => ⟨by rw [setRow_size]; exact (hm.far k hk).1, fun ho => (hm.far k hk).2 (hown k ho)⟩, fun i hi => hm.out i (by simpa using hi)⟩
  · rcases get i q hi with ⟨rfl, rfl⟩ | ⟨hne, h⟩
    · refine .inr ⟨b, N, hs, c', e, setRow_heap w b c c' e (0, 0) hg, hN, by omega, fun j x hj => let ⟨v, k1, k2⟩ := hr j x hj; ⟨v, k1, k2.mono g⟩⟩
    · rcases hm.blk i q h with k | ⟨b', N', k1, c1, e1, k2, k3, k4, k5⟩
      · exact .inl k
      · refine .inr ⟨b', N', k1, c1, e1, ?_, k3, k4, fun j x hj => let ⟨v, q1, q2⟩ := k5 j x hj; ⟨v, q1, q2.mono g⟩⟩
        rw [setRow_other w b c' fun hb => hne (hm.inj i id b N' N q cs h hid (hb ▸ k1) hs)]; exact k2
  · have a1 : ∃ q, m[i]? = some (.cells q) := by rcases get i q h1 with ⟨rfl, _⟩ | ⟨_, h⟩; exact ⟨_, hid⟩; exact ⟨_, h⟩
    have a2 : ∃ q, m[i']? = some (.cells q) := by rcases get i' q' h2 with ⟨rfl, _⟩ | ⟨_, h⟩; exact ⟨_, hid⟩; exact ⟨_, h⟩
    exact hm.inj i i' b' N' N'' _ _ a1.choose_spec a2.choose_spec h3 h4

/-- A slice grows in its own block: the elder name means nothing any more. -/
theorem mem_grow (hm : MemOk X σ m w) {id b N : Nat} {cs cs' : List C} {c c' : Array Value} {e : TypeId} (hid : m[id]? = some (.cells cs)) (hs : σ id = some (some (b, N))) (hg : w.heap[b]? = some (.cells c e (0, 0)))
    (hN : c'.size = N) (hcs : cs'.length ≤ c'.size) (hr : ∀ (j : Nat) (x : C), cs'[j]? = some x → ∃ v, c'[j]? = some v ∧ RepC σ (Lv X σ m) w v x) :
    MemOk X (up σ m.length (some (b, N))) (m.set id .hole ++ [.cells cs']) (w.setRow b c') ∧ Tr m.length σ m w (up σ m.length (some (b, N))) (m.set id .hole ++ [.cells cs']) (w.setRow b c') := by
  have hlt : id < m.length := (List.getElem?_eq_some_iff.1 hid).1
  have get : ∀ i q, (m.set id .hole ++ [.cells cs'])[i]? = some (.cells q) → (i = m.length ∧ q = cs') ∨ (i ≠ id ∧ i ≠ m.length ∧ m[i]? = some (.cells q)) := fun i q h => by
    rw [getElem?_snoc, List.length_set] at h
    split at h
    · rename_i k; cases h; exact .inl ⟨k, rfl⟩
    · rename_i k
      by_cases hi : i = id
      · subst hi; rw [List.getElem?_set_self hlt] at h; cases h
      · rw [List.getElem?_set_ne (Ne.symm hi)] at h; exact .inr ⟨hi, k, h⟩
  have hown : ∀ k, Own (up σ m.length (some (b, N))) (m.set id .hole ++ [.cells cs']) k → Own σ m k := fun k ⟨i, q, N', h1, h2⟩ => by
    rcases get i q h1 with ⟨rfl, rfl⟩ | ⟨_, hn, h⟩
    · rw [up_same] at h2; cases h2; exact ⟨id, cs, _, hid, hs⟩
    · rw [up_other _ _ hn] at h2; exact ⟨i, q, N', h, h2⟩
  have tr : Tr m.length σ m w (up σ m.length (some (b, N))) (m.set id .hole ++ [.cells cs']) (w.setRow b c') :=
    ⟨fun i hi => up_other _ _ (by omega), rfl, rfl, rfl, by rw [setRow_size]; exact Nat.le_refl _, fun k hk ho => setRow_other w b c' fun h => ho (h ▸ ⟨id, cs, N, hid, hs⟩), fun k hk => .inl (hown k hk)⟩
  refine ⟨?_, tr⟩
  have g := tr.chg hm
  refine ⟨fun i q hi => ?_, fun i i' b' N' N'' q q' h1 h2 h3 h4 => ?_, fun k hk => ⟨by rw [setRow_size]; exact (hm.far k hk).1, fun ho => (hm.far k hk).2 (hown k ho)⟩, fun i hi => ?_⟩
  · rcases get i q hi with ⟨rfl, rfl⟩ | ⟨hne, hn, h⟩
    · refine .inr ⟨b, N, up_same _ _ _, c', e, setRow_heap w b c c' e (0, 0) hg, hN, by omega, fun j x hj => let ⟨v, k1, k2⟩ := hr j x hj; ⟨v, k1, k2.mono g⟩⟩
    · rcases hm.blk i q h with ⟨k1, k2⟩ | ⟨b', N', k1, c1, e1, k2, k3, k4, k5⟩
      · exact .inl ⟨by rw [up_other _ _ hn]; exact k1, k2⟩
      · refine .inr ⟨b', N', by rw [up_other _ _ hn]; exact k1, c1, e1, ?_, k3, k4, fun j x hj => let ⟨v, q1, q2⟩ := k5 j x hj; ⟨v, q1, q2.mono g⟩⟩
        rw [setRow_other w b c' fun hb => hne (hm.inj i id b N' N q cs h hid (hb ▸ k1) hs)]; exact k2
  · rcases get i q h1 with ⟨rfl, rfl⟩ | ⟨hne, hn, h⟩ <;> rcases get i' q' h2 with ⟨rfl, rfl⟩ | ⟨hne', hn', h'⟩
    · rfl
    · rw [up_same] at h3; cases h3; rw [up_other _ _ hn'] at h4
      exact absurd (hm.inj i' id b N'' N _ _ h' hid h4 hs) hne'
    · rw [up_same] at h4; cases h4; rw [up_other _ _ hn] at h3
      exact absurd (hm.inj i id b N' N _ _ h hid h3 hs) hne
    · rw [up_other _ _ hn] at h3; rw [up_other _ _ hn'] at h4
      exact hm.inj i i' b' N' N'' _ _ h h' h3 h4
  · simp only [List.length_append, List.length_set, List.length_cons, List.length_nil] at hi
    rw [up_other _ _ (by omega)]; exact hm.out i (by omega)

/-- A name is let go. -/
theorem mem_hole (hm : MemOk X σ m w) (id : Nat) : MemOk X σ (m.set id .hole) w ∧ Tr m.length σ m w σ (m.set id .hole) w := by
  have get : ∀ (i : Nat) (q : List C), (m.set id Blk.hole)[i]? = some (Blk.cells q) → m[i]? = some (Blk.cells q) := fun i q h => by
    by_cases hi : i = id
    · subst hi
      rcases Nat.lt_or_ge i m.length with h1 | h1
      · rw [List.getElem?_set_self h1] at h; cases h
      · rw [List.getElem?_eq_none (by simpa using h1)] at h; cases h
    · rwa [List.getElem?_set_ne (Ne.symm hi)] at h
  have hown : ∀ k, Own σ (m.set id .hole) k → Own σ m k := fun k ⟨i, q, N', h1, h2⟩ => ⟨i, q, N', get i q h1, h2⟩
  have tr : Tr m.length σ m w σ (m.set id .hole) w := ⟨fun _ _ => rfl, rfl, rfl, rfl, Nat.le_refl _, fun _ _ _ => rfl, fun k hk => .inl (hown k hk)⟩
  refine ⟨?_, tr⟩
  have g := tr.chg hm
  refine ⟨fun i q hi => ?_, fun i i' b' N' N'' q q' h1 h2 h3 h4 => hm.inj i i' b' N' N'' q q' (get i q h1) (get i' q' h2) h3 h4, fun k hk => ⟨(hm.far k hk).1, fun ho => (hm.far k hk).2 (hown k ho)⟩, fun i hi => hm.out i (by simpa using hi)⟩
  rcases hm.blk i q (get i q hi) with k | ⟨b', N', k1, c1, e1, k2, k3, k4, k5⟩
  · exact .inl k
  · exact .inr ⟨b', N', k1, c1, e1, k2, k3, k4, fun j x hj => let ⟨v, q1, q2⟩ := k5 j x hj; ⟨v, q1, q2.mono g⟩⟩

end
end Go.Proofs.YtneiicadhjdbiaaGreat.Ab

namespace Go.Proofs.YtneiicadhjdbiaaGreat.Ab
open Go

/-- Behind a call: it has returned; its result and its memory read as Q says. -/
def Post (X : Nat → Prop) (σ : Sg) (mem : List Blk) (w : World) (Q : D → List Blk → Prop) : Ending → World → Prop := fun e w' =>
  ∃ v d mem' σ', e = .returned v ∧ Q d mem' ∧ RepD σ' (Lv X σ' mem') w' v d ∧ MemOk X σ' mem' w' ∧ Tr mem.length σ mem w σ' mem' w' ∧ mem.length ≤ mem'.length

def RepDs (σ : Sg) (L : Nat → Prop) (w : World) (vs : List Value) (ds : List D) : Prop :=
  vs.length = ds.length ∧ ∀ (i : Nat) (d : D), ds[i]? = some d → ∃ u, vs[i]? = some u ∧ RepD σ L w u d

/-- The contract of a function: called with these, over this memory, it returns, and Q. -/
def AFun (P : Program) (f : Nat) (ds : List D) (mem : List Blk) (Q : D → List Blk → Prop) : Prop :=
  ∀ (X : Nat → Prop) (σ : Sg) (w : World) (vs : List Value), MemOk X σ mem w → RepDs σ (Lv X σ mem) w vs ds → Calls P f vs.toArray w (Post X σ mem w Q)

/-- The same; where g is true all memory that was there is as it was. -/
def AFunG (P : Program) (g : Bool) (f : Nat) (ds : List D) (mem : List Blk) (Q : D → List Blk → Prop) : Prop :=
  ∀ (X : Nat → Prop) (σ : Sg) (w : World) (vs : List Value), MemOk X σ mem w → RepDs σ (Lv X σ mem) w vs ds → Calls P f vs.toArray w fun e w' => Post X σ mem w Q e w' ∧ (g = true → Grow w w')

theorem AFunG.of {P : Program} {f : Nat} {ds : List D} {mem : List Blk} {Q : D → List Blk → Prop} (h : AFun P f ds mem Q) : AFunG P false f ds mem Q :=
  fun X σ w vs hm hr => (h X σ w vs hm hr).mono fun _ _ h => ⟨h, fun h => by cases h⟩

theorem AFunG.mono {P : Program} {g : Bool} {f : Nat} {ds : List D} {mem : List Blk} {Q Q' : D → List Blk → Prop} (h : AFunG P g f ds mem Q) (hq : ∀ d m, Q d m → Q' d m) : AFunG P g f ds mem Q' :=
  fun X σ w vs hm hr => (h X σ w vs hm hr).mono fun _ _ ⟨⟨v, d, m', σ', h1, h2, h3⟩, h4⟩ => ⟨⟨v, d, m', σ', h1, hq _ _ h2, h3⟩, h4⟩

inductive EOp where
  | new (zero : List C)
  | box (x : Opd)
  | mks (sz len : Nat) (zero : List C) (parts : List (Nat × Nat × Opd))
  | mk (sz bytes : Nat) (zero : List C) (len cap : Opd)
  | st (n : Nat) (x v : Opd)
  | app (sz bytes : Nat) (x y : Opd)
  | call (g : Bool) (f : Nat) (args : List Opd)
  | callv (g : Bool) (x : Opd) (args : List Opd)
  | clr (sz : Nat) (zero : List C) (x : Opd)

def manyC : Nat → List C → List C
  | 0, _ => []
  | n + 1, z => z ++ manyC n z

/-- The cells of a slice's elements. -/
def elemsOf (sz : Nat) (m : List Blk) : D → Option (Nat × List C)
  | .t (.c (.sl sz' id off len)) => if sz' = sz then (rdm m id off (len * sz)).map fun cs => (len, cs) else none
  | .t (.c (.v (.ro sz' es))) => if sz' = sz then some (es.length, es.flatten.map .v) else none
  | .t (.c .nil) => some (0, [])
  | _ => none

/-- A function with a body of its own. -/
def isFn (P : Program) (f : Nat) : Bool := match P.funcs[f]? with
  | some fn => fn.body.isSome && fn.name != "runtime.NumGoroutine"
  | none => false

def eop (P : Program) (o : EOp) (e : Env) (m : List Blk) (K : D → List Blk → Prop) : Prop :=
  match o with
  | .new zero => K (DC (.ptr m.length 0)) (m ++ [.cells zero])
  | .box x => match cellsD (ev e x) with
    | some cs => K (DC (.ptr m.length 0)) (m ++ [.cells cs])
    | none => False
  | .mks sz len zero parts => match buildC e (manyC len zero) parts with
    | some cs => K (DC (.sl sz m.length 0 len)) (m ++ [.cells cs])
    | none => False
  | .mk sz bytes zero len cap => match ev e len, ev e cap with
    | .t (.c (.v (.int .i64 l))), .t (.c (.v (.int .i64 c))) => 0 ≤ l ∧ l ≤ c ∧ c ≤ 4611686018427387904 ∧ bytes * c ≤ 281474976710656 ∧ K (DC (.sl sz m.length 0 l.toNat)) (m ++ [.cells (manyC l.toNat zero)])
    | _, _ => False
  | .st n x v => match ev e x, cellsD (ev e v) with
    | .t (.c (.ptr id off)), some xs => xs.length = n ∧ ∃ cs, m[id]? = some (.cells cs) ∧ off + n ≤ cs.length ∧ K .any (m.set id (.cells (putCells cs off xs)))
    | _, _ => False
  | .app sz bytes x y => match elemsOf sz m (ev e y) with
    | some (n, ys) => match ev e x with
      | .t (.c .nil) => n * bytes ≤ 140737488355328 ∧ K (DC (.sl sz m.length 0 n)) (m ++ [.cells ys])
      | .t (.c (.sl sz' id 0 len)) => sz' = sz ∧ (len + n) * bytes ≤ 140737488355328 ∧ ∃ cs, m[id]? = some (.cells cs) ∧ cs.length = len * sz ∧ K (DC (.sl sz m.length 0 (len + n))) (m.set id .hole ++ [.cells (cs ++ ys)])
      | _ => False
    | none => False
  | .call g f args => AFunG P g f (args.map (ev e)) m K
  | .callv g x args => match ev e x with
    | .t (.c (.fn f caps)) => isFn P f = true ∧ AFunG P g f (args.map (ev e) ++ caps.map fun p => DC (.ptr p.1 p.2)) m K
    | _ => False
  | .clr sz zero x => match ev e x with
    | .t (.c .nil) => K .any m
    | .t (.c (.sl sz' id off len)) => sz' = sz ∧ (manyC len zero).length = len * sz ∧ ∃ cs, m[id]? = some (.cells cs) ∧ off + len * sz ≤ cs.length ∧ K .any (m.set id (.cells (putCells cs off (manyC len zero))))
    | _ => False

def compE (P : Program) (g : Bool) (o : Op) : Option EOp :=
  match o with
  | .alloc t => do some (.new (← zeroOf ((P.info? t).bind (·.zero))))
  | .box _ x => do some (.box (← copd x))
  | .buildSlice t len parts => match P.underlying t with
    | some (.slice el) => do
      let i ← P.info? el
      let z ← zeroOf i.zero
      if z.length ≠ i.size ∨ i.size = 0 ∨ len * i.size > 16777216 then none else
      let ps ← parts.toList.mapM fun (k, x) => do some (k * i.size, i.size, ← copd x)
      some (.mks i.size len z ps)
    | _ => none
  | .makeSlice t l c => match P.underlying t with
    | some (.slice el) => do
      let i ← P.info? el
      let z ← zeroOf i.zero
      if z.length ≠ i.size ∨ i.size = 0 then none else
      some (.mk i.size i.bytes z (← copd l) (← copd c))
    | _ => none
  | .store t x v => do some (.st (← P.info? t).size (← copd x) (← copd v))
  | .call c => match c.callee with
    | .builtin .append => match c.args.toList, c.argTypes.toList with
      | [x, y], [t, u] => match P.underlying t, P.underlying u with
        | some (.slice el), some (.slice _) => do
          let i ← P.info? el
          let z ← zeroOf i.zero
          if z.length ≠ i.size ∨ i.size = 0 ∨ i.bytes = 0 then none else some (.app i.size i.bytes (← copd x) (← copd y))
        | _, _ => none
      | _, _ => none
    | .builtin .clear => match c.args.toList, c.argTypes.toList with
      | [x], [t] => match P.underlying t with
        | some (.slice el) => do
          let i ← P.info? el
          let z ← zeroOf i.zero
          if z.length ≠ i.size ∨ i.size = 0 then none else some (.clr i.size z (← copd x))
        | _ => none
      | _, _ => none
    | .value (.func f) => if isFn P f then do some (.call g f (← c.args.toList.mapM copd)) else none
    | .value (.tmp t) => do some (.callv g (.t t) (← c.args.toList.mapM copd))
    | _ => none
  | _ => none

end Go.Proofs.YtneiicadhjdbiaaGreat.Ab

namespace Go.Proofs.YtneiicadhjdbiaaGreat.Ab
open Go

theorem flatten_get {α : Type} {sz : Nat} (hsz : 0 < sz) : ∀ (es : List (List α)) (q : Nat), (∀ (i : Nat) (c : List α), es[i]? = some c → c.length = sz) → es.flatten[q]? = (es[q / sz]?).bind fun c => c[q % sz]?
  | [], q, _ => by simp
  | c :: r, q, h => by
    have hc : c.length = sz := h 0 c rfl
    rw [List.flatten_cons, List.getElem?_append]
    split
    · rename_i hq
      rw [hc] at hq
      rw [Nat.div_eq_of_lt hq, Nat.mod_eq_of_lt hq]; rfl
    · rename_i hq
      rw [hc] at hq ⊢
      rw [flatten_get hsz r (q - sz) (fun i c hi => h (i + 1) c (by simpa using hi))]
      have h1 : q / sz = (q - sz) / sz + 1 := by rw [Nat.div_eq_sub_div hsz (by omega)]
      have h2 : q % sz = (q - sz) % sz := Nat.mod_eq_sub_mod (by omega)
      rw [h1, h2]; rfl

theorem flatten_length {α : Type} {sz : Nat} : ∀ (es : List (List α)), (∀ (i : Nat) (c : List α), es[i]? = some c → c.length = sz) → es.flatten.length = es.length * sz
  | [], _ => by simp
  | c :: r, h => by
    rw [List.flatten_cons, List.length_append, flatten_length r (fun i c hi => h (i + 1) c (by simpa using hi)), h 0 c rfl, List.length_cons, Nat.add_mul]; omega

section
variable {P : Program} {X : Nat → Prop} {σ : Sg} {m : List Blk} {w : World} {a : Act} {e : Env}

theorem run_first (b off sz n cap : Nat) (vs : List Value) (hl : vs.length = n * sz) {w : World} (h : ∀ (j : Nat) (v : Value), vs[j]? = some v → w.cell? ⟨b, off + j, none⟩ = some v) :
    (Builtin.firstCells sz n (.slice (some ⟨b, off, none⟩) n cap)).run P w = .ok vs.toArray w := by
  have := run_loadCells_list (P := P) w ⟨b, off, none⟩ vs fun j v hj => by rw [Addr.add_lit]; exact h j v hj
  simp only [Builtin.firstCells, ← hl, this]

theorem run_first_zero (sz : Nat) (A : Option Addr) (cap : Nat) (w : World) : (Builtin.firstCells sz 0 (.slice A 0 cap)).run P w = .ok #[] w := by
  cases A with
  | none => simp [Builtin.firstCells]
  | some a => simp [Builtin.firstCells, loadCells, loadCellsFrom]

/-- The elements of a slice, as append reads them. -/
theorem elems_rep {sz : Nat} (hsz : 0 < sz) (hm : MemOk X σ m w) {v : Value} {d : D} {n : Nat} {ys : List C} (h : elemsOf sz m d = some (n, ys)) (hr : RepD σ (Lv X σ m) w v d) :
    ∃ B cap, ∃ vs : List Value, v = .slice B n cap ∧ vs.length = n * sz ∧ RepCs σ (Lv X σ m) w vs ys ∧ ∀ w', w'.heap = w.heap → (Builtin.firstCells sz n v).run P w' = .ok vs.toArray w' := by
  have hcell : ∀ {w' : World} {b o : Nat}, w'.heap = w.heap → w'.cell? ⟨b, o, none⟩ = w.cell? ⟨b, o, none⟩ := fun h => cell?_of_heap (by rw [h])
  unfold elemsOf at h
  split at h
  · rename_i sz' id off len
    split at h
    · rename_i hs; subst hs
      simp only [Option.map_eq_some_iff] at h
      obtain ⟨cs, hcs, h⟩ := h
      cases h
      rcases hr with ⟨_, rfl, A, rfl⟩ | ⟨b, N, cap, h1, rfl, h2⟩
      · have hys : ys = [] := by
          unfold rdm at hcs
          split at hcs
          · split at hcs
            · cases hcs; simp
            · cases hcs
          · cases hcs
        subst hys
        exact ⟨A, 0, [], rfl, by simp, ⟨rfl, fun i x hx => by simp at hx⟩, fun w' _ => run_first_zero sz' A 0 w'⟩
      · obtain ⟨vs, k1, k2, k3⟩ := own_cells hm h1 hcs
        exact ⟨_, cap, vs, rfl, k1, k2, fun w' hw => run_first b off sz' n cap vs k1 fun j v hj => (hcell hw).trans (k3 j v hj)⟩
    · cases h
  · rename_i sz' es
    split at h
    · rename_i hs; subst hs
      cases h
      obtain ⟨A, cap, rfl, hcap, hne⟩ := repV_ro hr
      by_cases hes : es = []
      · subst hes
        exact ⟨A, cap, [], rfl, by simp, ⟨rfl, fun i x hx => by simp at hx⟩, fun w' _ => run_first_zero sz' A cap w'⟩
      · obtain ⟨b, off, val, rfl, hb, hL, hsizes, hc⟩ := hne hes
        have hfl := flatten_length es hsizes
        have get : ∀ q x, es.flatten[q]? = some x → w.cell? ⟨b, off + q, none⟩ = some (val (q / sz') (q % sz')) ∧ RepV (Lv X σ m) w (val (q / sz') (q % sz')) x := fun q x hq => by
          rw [flatten_get hsz es q hsizes] at hq
          cases hce : es[q / sz']? with
          | none => simp [hce] at hq
          | some c =>
            simp only [hce, Option.bind_some] at hq
            have := hc _ c hce _ x hq
            rw [Nat.add_assoc, Nat.mul_comm, Nat.div_add_mod] at this
            exact this
        refine ⟨_, cap, (List.range (es.length * sz')).map fun q => val (q / sz') (q % sz'), rfl, by simp, ⟨by rw [List.length_map, List.length_map, List.length_range, hfl], fun q x hq => ?_⟩, fun w' hw => ?_⟩
        · simp only [List.getElem?_map, Option.map_eq_some_iff] at hq
          obtain ⟨y, hy, rfl⟩ := hq
          have hlt := (List.getElem?_eq_some_iff.1 hy).1
          exact ⟨_, by simp [hfl] at hlt ⊢; exact ⟨_, by rw [List.getElem?_range hlt], rfl⟩, (get q y hy).2⟩
        · refine run_first b off sz' es.length cap _ (by simp) fun j v hj => ?_
          simp only [List.getElem?_map, Option.map_eq_some_iff] at hj
          obtain ⟨q, hq, rfl⟩ := hj
          obtain ⟨hlt, hq⟩ := List.getElem?_eq_some_iff.1 hq
          simp only [List.length_range] at hlt
          simp only [List.getElem_range] at hq
          subst hq
          exact (hcell hw).trans (get j _ (List.getElem?_eq_getElem (by rw [hfl]; exact hlt))).1
    · cases h
  · cases h
    obtain ⟨A, rfl⟩ := hr
    exact ⟨A, 0, [], rfl, by simp, ⟨rfl, fun i x hx => by simp at hx⟩, fun w' _ => run_first_zero sz A 0 w'⟩
  · cases h

theorem append_grow {t u ty el : TypeId} {el2 : TypeId} {i : TypeInfo} {z : Value} (ht : P.underlying t = some (.slice el)) (hu : P.underlying u = some (.slice el2)) (hi : P.info? el = some i) (hz : i.zero = some z)
    {A B : Option Addr} {n k cap capk : Nat} {olds news : List Value} {w : World}
    (ho : ∀ w', w'.heap = w.heap → (Builtin.firstCells i.size n (.slice A n cap)).run P w' = .ok olds.toArray w')
    (hn : ∀ w', w'.heap = w.heap → (Builtin.firstCells i.size k (.slice B k capk)).run P w' = .ok news.toArray w')
    (hg : cap < n + k) (hb : (n + k) * i.bytes ≤ 140737488355328) (h63 : n + k ≤ 9223372036854775807) :
    (Builtin.append_ #[t, u] ty #[.slice A n cap, .slice B k capk]).run P w =
      .ok (.slice (some ⟨w.heap.size, 0, none⟩) (n + k) (grownCap w (n + k) cap el)) (w.drew.alloc (.cells (olds.toArray ++ news.toArray ++ Builtin.zeroCells z.cells (grownCap w (n + k) cap el - (n + k))) el)) := by
  have hn' : ¬ (n + k ≤ cap) := by omega
  have h63' : ¬ (9223372036854775807 < ((n : Int) + (k : Int))) := by omega
  have hfit := growslice_fits hg hb
  have h48' : ¬ (281474976710656 < Builtin.nextslicecap (n + k) cap * i.bytes) := by omega
  have e1 := ho w.drew rfl
  have e2 := hn w.drew rfl
  simp [Builtin.append_, run_underlying ht, run_underlying hu, sizeOf, typeInfo, zeroValue, hi, hz, Builtin.lenOf, hn', h63', h48', Question.forced, e1, e2, newRow, grownCap]
  congr 2
  apply Array.ext'
  simp [List.append_assoc]

theorem append_room {t u ty el : TypeId} {el2 : TypeId} {i : TypeInfo} (ht : P.underlying t = some (.slice el)) (hu : P.underlying u = some (.slice el2)) (hi : P.info? el = some i)
    {B : Option Addr} {b n k cap capk : Nat} {cur : Array Value} {e : TypeId} {news : List Value} {w : World} (hgg : w.heap[b]? = some (.cells cur e (0, 0)))
    (hn : (Builtin.firstCells i.size k (.slice B k capk)).run P w = .ok news.toArray w) (h1 : ∀ v ∈ news, v.oneCell' = true)
    (hg : n + k ≤ cap) (hfit : n * i.size + news.length ≤ cur.size) :
    (Builtin.append_ #[t, u] ty #[.slice (some ⟨b, 0, none⟩) n cap, .slice B k capk]).run P w =
      .ok (.slice (some ⟨b, 0, none⟩) (n + k) cap) (w.setRow b (cur.toList.take (n * i.size) ++ news ++ cur.toList.drop (n * i.size + news.length)).toArray) := by
  have hst := run_storeCells_at P b (n * i.size) e news 0 cur w hgg (by simpa using hfit) h1
  simp only [Nat.add_zero] at hst
  simp [Builtin.append_, run_underlying ht, run_underlying hu, sizeOf, typeInfo, hi, Builtin.lenOf, hg, hn, Addr.add_lit, hst]

theorem append_none {t u ty el : TypeId} {el2 : TypeId} {i : TypeInfo} (ht : P.underlying t = some (.slice el)) (hu : P.underlying u = some (.slice el2)) (hi : P.info? el = some i)
    {A B : Option Addr} {capk : Nat} {w : World} : (Builtin.append_ #[t, u] ty #[.slice A 0 0, .slice B 0 capk]).run P w = .ok (.slice A 0 0) w := by
  have := run_first_zero (P := P) i.size B capk w
  cases A <;> simp [Builtin.append_, run_underlying ht, run_underlying hu, sizeOf, typeInfo, hi, Builtin.lenOf, this, storeCells]

/-- What an operation with an effect leaves. -/
def Left (X : Nat → Prop) (σ : Sg) (m : List Blk) (w : World) (K : D → List Blk → Prop) (v : Value) (w' : World) : Prop :=
  ∃ d m' σ', K d m' ∧ RepD σ' (Lv X σ' m') w' v d ∧ MemOk X σ' m' w' ∧ Tr m.length σ m w σ' m' w' ∧ m.length ≤ m'.length

theorem zeroCells_size (z : Array Value) (n : Nat) : (Builtin.zeroCells z n).size = n * z.size := by simp [Builtin.zeroCells]

theorem repC_one_list {L : Nat → Prop} {vs : List Value} {ys : List C} (h : RepCs σ L w vs ys) : ∀ v ∈ vs, v.oneCell' = true := fun v hv => by
  obtain ⟨i, hi, rfl⟩ := List.getElem_of_mem hv
  have hlt : i < ys.length := by rw [← h.1]; exact hi
  obtain ⟨u, h1, h2⟩ := h.2 i _ (List.getElem?_eq_getElem hlt)
  rw [List.getElem?_eq_getElem hi] at h1
  cases h1
  exact h2.one

/-- append at a slice without room. -/
theorem s_app_new {t u ty el el2 : TypeId} {i : TypeInfo} {z : Value} (ht : P.underlying t = some (.slice el)) (hu : P.underlying u = some (.slice el2)) (hi : P.info? el = some i) (hz : i.zero = some z) (hzs : z.cells.size = i.size) (hbp : 0 < i.bytes)
    (hm : MemOk X σ m w) {A B : Option Addr} {n k cap capk : Nat} {olds news : List Value} {xs ys : List C} (ho : ∀ w', w'.heap = w.heap → (Builtin.firstCells i.size n (.slice A n cap)).run P w' = .ok olds.toArray w')
    (hn : ∀ w', w'.heap = w.heap → (Builtin.firstCells i.size k (.slice B k capk)).run P w' = .ok news.toArray w') (hol : olds.length = n * i.size) (hnl : news.length = k * i.size)
    (hor : RepCs σ (Lv X σ m) w olds xs) (hnr : RepCs σ (Lv X σ m) w news ys) (hg : cap < n + k) (hb : (n + k) * i.bytes ≤ 140737488355328) {K : D → List Blk → Prop} (hk : K (DC (.sl i.size m.length 0 (n + k))) (m ++ [.cells (xs ++ ys)])) :
    ∃ v w', (Builtin.append_ #[t, u] ty #[.slice A n cap, .slice B k capk]).run P w = .ok v w' ∧ Left X σ m w K v w' := by
  have h63 : n + k ≤ 9223372036854775807 := by
    have : (n + k) * 1 ≤ (n + k) * i.bytes := Nat.mul_le_mul_left _ hbp
    omega
  have hrun := append_grow (ty := ty) ht hu hi hz ho hn hg hb h63
  refine ⟨_, _, hrun, ?_⟩
  have hge := grownCap_ge w (n + k) cap el
  have hs : Same w w.drew := ⟨rfl, rfl, rfl, rfl⟩
  have hmd := hs.mem hm
  have hL : xs.length = n * i.size := by rw [← hor.1]; exact hol
  have hL' : ys.length = k * i.size := by rw [← hnr.1]; exact hnl
  have chg : Chg σ (Lv X σ m) w σ (Lv X σ m) w.drew := ⟨fun _ _ h => h, Nat.le_refl _, fun b _ h => ⟨h, rfl⟩⟩
  have hsize : (olds.toArray ++ news.toArray ++ Builtin.zeroCells z.cells (grownCap w (n + k) cap el - (n + k))).size = grownCap w (n + k) cap el * i.size := by
    rw [Array.size_append, zeroCells_size, hzs, Array.size_append]
    simp only [List.size_toArray]
    rw [hol, hnl, ← Nat.add_mul, ← Nat.add_mul]
    congr 1; omega
  obtain ⟨h1, h2⟩ := mem_new (cs := xs ++ ys) (c := olds.toArray ++ news.toArray ++ Builtin.zeroCells z.cells (grownCap w (n + k) cap el - (n + k))) hmd el (by
      rw [hsize, List.length_append, hL, hL', ← Nat.add_mul]; exact Nat.mul_le_mul_right _ hge) (fun j x hj => by
      have hlt := (List.getElem?_eq_some_iff.1 hj).1
      rw [List.length_append] at hlt
      have hget : (olds.toArray ++ news.toArray ++ Builtin.zeroCells z.cells (grownCap w (n + k) cap el - (n + k)))[j]? = (olds ++ news)[j]? := by
        rw [Array.getElem?_append_left (by simp only [Array.size_append, List.size_toArray]; rw [hol, hnl]; omega)]
        simp
      rw [hget]
      rw [List.getElem?_append] at hj ⊢
      rw [hor.1]
      split at hj
      · rename_i hj'; rw [if_pos hj']; obtain ⟨v, q1, q2⟩ := hor.2 j x hj; exact ⟨v, q1, q2.mono chg⟩
      · rename_i hj'; rw [if_neg hj']; obtain ⟨v, q1, q2⟩ := hnr.2 _ x hj; exact ⟨v, q1, q2.mono chg⟩)
  refine ⟨_, _, _, hk, ?_, h1, (hs.tr (n := m.length)).trans h2 (Nat.le_refl _), by simp⟩
  refine .inr ⟨w.heap.size, _, grownCap w (n + k) cap el, up_same _ _ _, rfl, hge, ?_⟩
  rw [hsize]; omega

/-- append, all cases. -/
theorem s_app {t u ty el el2 : TypeId} {i : TypeInfo} {z : Value} (ht : P.underlying t = some (.slice el)) (hu : P.underlying u = some (.slice el2)) (hi : P.info? el = some i) (hz : i.zero = some z) (hzs : z.cells.size = i.size) (hpos : 0 < i.size) (hbp : 0 < i.bytes)
    (hm : MemOk X σ m w) {x y : Opd} {vx vy : Value} (hx : RepD σ (Lv X σ m) w vx (ev e x)) (hy : RepD σ (Lv X σ m) w vy (ev e y)) {K : D → List Blk → Prop} (hk : eop P (.app i.size i.bytes x y) e m K) :
    ∃ v w', (Builtin.append_ #[t, u] ty #[vx, vy]).run P w = .ok v w' ∧ Left X σ m w K v w' := by
  simp only [eop] at hk
  split at hk
  · rename_i k ys hel
    obtain ⟨B, capk, news, rfl, hnl, hnr, hn⟩ := elems_rep (P := P) hpos hm hel hy
    split at hk
    · rename_i hev
      rw [hev] at hx
      obtain ⟨A, rfl⟩ := hx
      by_cases hk0 : k = 0
      · subst hk0
        have hys : ys = [] := by have := hnr.1; rw [hnl] at this; simp at this; exact List.eq_nil_of_length_eq_zero this.symm
        subst hys
        obtain ⟨q1, q2⟩ := mem_empty hm
        exact ⟨_, _, append_none ht hu hi, _, _, _, hk.2, .inl ⟨by rw [up_same]; simp, rfl, A, rfl⟩, q1, q2, by simp⟩
      · exact s_app_new ht hu hi hz hzs hbp hm (n := 0) (olds := []) (xs := []) (fun w' _ => run_first_zero i.size A 0 w') hn (by simp) hnl ⟨rfl, fun j q hq => by simp at hq⟩ hnr (by omega) (by simpa using hk.1) (by simpa using hk.2)
    · rename_i sz id len hev
      obtain ⟨rfl, hb, cs, hcs, hlen, hk⟩ := hk
      rw [hev] at hx
      obtain ⟨g1, g2⟩ := mem_hole hm id
      have gc := g2.chg hm
      have lift : ∀ {v w'}, Left X σ (m.set id .hole) w K v w' → Left X σ m w K v w' := fun ⟨d, m', σ', r1, r2, r3, r4, r5⟩ => by
        rw [List.length_set] at r4 r5
        exact ⟨d, m', σ', r1, r2, r3, g2.trans r4 (Nat.le_refl _), r5⟩
      have hkk : K (DC (.sl i.size (m.set id .hole).length 0 (len + k))) (m.set id .hole ++ [.cells (cs ++ ys)]) := by rw [List.length_set]; exact hk
      rcases hx with ⟨_, rfl, A, rfl⟩ | ⟨b, N, cap, h1, rfl, h2, h3⟩
      · have hcs0 : cs = [] := List.eq_nil_of_length_eq_zero (by omega)
        subst hcs0
        by_cases hk0 : k = 0
        · subst hk0
          have hys : ys = [] := by have := hnr.1; rw [hnl] at this; simp at this; exact List.eq_nil_of_length_eq_zero this.symm
          subst hys
          obtain ⟨q1, q2⟩ := mem_empty g1
          exact ⟨_, _, append_none ht hu hi, lift ⟨_, _, _, hkk, .inl ⟨by rw [up_same]; simp, rfl, A, rfl⟩, q1, q2, by simp⟩⟩
        · obtain ⟨v, w', q1, q2⟩ := s_app_new ht hu hi hz hzs hbp g1 (n := 0) (olds := []) (xs := []) (fun w' _ => run_first_zero i.size A 0 w') hn (by simp) hnl ⟨rfl, fun j q hq => by simp at hq⟩ (hnr.mono gc) (by omega) hb hkk
          exact ⟨v, w', q1, lift q2⟩
      · rcases hm.blk id cs hcs with ⟨k1, _⟩ | ⟨b', N', k1, c, e0, k2, k3, k4, k5⟩
        · rw [h1] at k1; cases k1
        · rw [h1] at k1; cases k1
          have hcap : len * i.size ≤ c.size := by omega
          by_cases hroom : len + k ≤ cap
          · have hfit : len * i.size + news.length ≤ c.size := by
              rw [hnl, ← Nat.add_mul, k3]
              exact Nat.le_trans (Nat.mul_le_mul_right _ hroom) (by omega)
            have hrun := append_room (ty := ty) ht hu hi (cap := cap) k2 (hn w rfl) (repC_one_list hnr) hroom hfit
            have hsz' : (c.toList.take (len * i.size) ++ news ++ c.toList.drop (len * i.size + news.length)).length = c.size := by
              simp; omega
            obtain ⟨q1, q2⟩ := mem_grow hm (cs' := cs ++ ys) (c' := (c.toList.take (len * i.size) ++ news ++ c.toList.drop (len * i.size + news.length)).toArray) hcs h1 k2 (by rw [List.size_toArray, hsz', k3])
              (by rw [List.size_toArray, hsz', List.length_append, hlen, ← hnr.1]; exact hfit) (fun j x hj => by
                simp only [List.getElem?_toArray]
                rw [List.getElem?_append_left (by have := (List.getElem?_eq_some_iff.1 hj).1; simp at this ⊢; rw [← hnr.1] at this; omega)]
                have htl : (c.toList.take (len * i.size)).length = len * i.size := by simp; omega
                rw [List.getElem?_append] at hj ⊢
                rw [htl]; rw [hlen] at hj
                split at hj
                · rename_i hj'; rw [if_pos hj', List.getElem?_take, if_pos hj']; obtain ⟨v, r1, r2⟩ := k5 j x hj; exact ⟨v, by simpa using r1, r2⟩
                · rename_i hj'; rw [if_neg hj']; exact hnr.2 _ x hj)
            exact ⟨_, _, hrun, _, _, _, hk, .inr ⟨b, N, cap, up_same _ _ _, rfl, hroom, h3⟩, q1, q2, by simp⟩
          · have hold : RepCs σ (Lv X σ m) w (c.toList.take (len * i.size)) cs := ⟨by simp; omega, fun j x hj => by
              obtain ⟨v, r1, r2⟩ := k5 j x hj
              have := (List.getElem?_eq_some_iff.1 hj).1
              exact ⟨v, by rw [List.getElem?_take, if_pos (by omega)]; simpa using r1, r2⟩⟩
            obtain ⟨v, w', q1, q2⟩ := s_app_new ht hu hi hz hzs hbp g1 (n := len) (A := some ⟨b, 0, none⟩) (olds := c.toList.take (len * i.size)) (xs := cs)
              (fun w' hw => run_first b 0 i.size len cap _ (by simp; omega) fun j v hj => by
                rw [List.getElem?_take] at hj
                split at hj
                · simp only [World.cell?, hw, k2]; simpa using hj
                · cases hj) hn (by simp; omega) hnl (hold.mono gc) (hnr.mono gc) (by omega) hb hkk
            exact ⟨v, w', q1, lift q2⟩
    · exact hk.elim
  · exact hk.elim

end
end Go.Proofs.YtneiicadhjdbiaaGreat.Ab

namespace Go.Proofs.YtneiicadhjdbiaaGreat.Ab
open Go

section
variable {P : Program} {g : Bool} {X : Nat → Prop} {σ : Sg} {m : List Blk} {w : World} {a : Act} {e : Env} {K : D → List Blk → Prop}

theorem grow_alloc (w : World) (o : Obj) : Grow w (w.alloc o) := ⟨by simp, fun b hb => by
  show (w.heap.push _)[b]? = _
  rw [Array.getElem?_push, if_neg (by omega)]⟩

theorem run_zero {t : TypeId} {i : TypeInfo} {z : Value} (hi : P.info? t = some i) (hz : i.zero = some z) (w : World) : (zeroValue t).run P w = .ok z w := by
  simp [zeroValue, run_typeInfo _ hi, hz]

theorem zero_info {t : TypeId} {cs : List C} (h : zeroOf ((P.info? t).bind (·.zero)) = some cs) : ∃ i z, P.info? t = some i ∧ i.zero = some z ∧ zeroOf (some z) = some cs := by
  cases hi : P.info? t with
  | none => simp [hi, zeroOf] at h
  | some i =>
    cases hz : i.zero with
    | none => simp [hi, hz, zeroOf] at h
    | some z => exact ⟨i, z, rfl, hz, by simpa [hi, hz] using h⟩

theorem new_left (hm : MemOk X σ m w) {v : Value} {cs : List C} (ty : TypeId) (hr : RepCs σ (Lv X σ m) w v.cells.toList cs) (hk : K (DC (.ptr m.length 0)) (m ++ [.cells cs])) :
    ∃ v' w', (do pure (.pointer (some (← newVar ty v))) : Sem Value).run P w = .ok v' w' ∧ Left X σ m w K v' w' := by
  obtain ⟨h1, h2⟩ := mem_new hm (c := v.cells) (cs := cs) ty (by rw [← hr.1]; simp) (fun j x hj => by obtain ⟨u, q1, q2⟩ := hr.2 j x hj; exact ⟨u, by simpa using q1, q2⟩)
  exact ⟨.pointer (some ⟨w.heap.size, 0, none⟩), _, by simp [newVar, newRow], _, _, _, hk, ⟨_, _, up_same _ _ _, rfl⟩, h1, h2, by simp⟩

theorem mod_zero (z : List Value) (n : Nat) : ((Array.range (n * z.length)).map (fun i => (z.toArray)[i % z.toArray.size]!)).toList = (List.range (n * z.length)).map fun i => z.getD (i % z.length) default := by
  rw [Array.toList_map, Array.toList_range]
  apply List.map_congr_left
  intro i hi
  simp only [List.size_toArray]
  rw [getElem!_def, List.getElem?_toArray, List.getD_eq_getElem?_getD]
  cases z[i % z.length]? <;> rfl

theorem rep_many {L : Nat → Prop} {z : List Value} {cs : List C} (h : RepCs σ L w z cs) : ∀ n : Nat, RepCs σ L w ((List.range (n * z.length)).map fun i => z.getD (i % z.length) default) (manyC n cs) := by
  have hlen : ∀ n, (manyC n cs).length = n * z.length := by
    intro n
    induction n with
    | zero => simp [manyC]
    | succ n ih => rw [manyC, List.length_append, ih, Nat.add_mul, ← h.1]; omega
  have hget : ∀ n q, q < n * z.length → (manyC n cs)[q]? = cs[q % z.length]? := by
    intro n
    induction n with
    | zero => intro q hq; simp at hq
    | succ n ih =>
      intro q hq
      rw [manyC, List.getElem?_append]
      split
      · rename_i hlt; rw [← h.1] at hlt; rw [Nat.mod_eq_of_lt hlt]
      · rename_i hge
        rw [← h.1] at hge ⊢
        rw [ih _ (by rw [Nat.add_mul] at hq; omega), Nat.mod_eq_sub_mod (a := q) (by omega)]
  intro n
  refine ⟨by simp [hlen], fun j x hj => ?_⟩
  have hlt : j < n * z.length := by have := (List.getElem?_eq_some_iff.1 hj).1; rwa [hlen] at this
  rw [hget n j hlt] at hj
  obtain ⟨u, q1, q2⟩ := h.2 _ _ hj
  refine ⟨u, ?_, q2⟩
  rw [List.getElem?_map, List.getElem?_range hlt]
  simp [q1]

theorem s_fillS (s : St X σ m w a e) (sz : Nat) :
    ∀ (parts : List (Nat × Operand)) (ps : List (Nat × Nat × Opd)) (vs : List Value) (cs cs' : List C),
      (parts.mapM fun (x : Nat × Operand) => (do some (x.1 * sz, sz, ← copd x.2) : Option (Nat × Nat × Opd))) = some ps →
      RepCs σ (Lv X σ m) w vs cs → buildC e cs ps = some cs' → ∃ vs', Instr.fill (fun i => some (i * sz, sz)) vs.toArray (parts.map fun (x : Nat × Operand) => (x.1, a.eval x.2)) = some vs'.toArray ∧ RepCs σ (Lv X σ m) w vs' cs' ∧ vs'.length = vs.length
  | [], ps, vs, cs, cs', h, hr, hb => by
    simp only [List.mapM_nil] at h
    cases h
    simp only [buildC] at hb
    cases hb
    exact ⟨vs, rfl, hr, rfl⟩
  | (i, x) :: rest, ps, vs, cs, cs', h, hr, hb => by
    rw [List.mapM_cons] at h
    obtain ⟨p, hp', h⟩ := opdO h
    obtain ⟨ps', hps, h⟩ := opdO h
    cases h
    obtain ⟨y, hy, hp'⟩ := opdO hp'
    cases hp'
    simp only [buildC] at hb
    split at hb
    · rename_i xs hxs
      split at hb
      · rename_i hsz
        have hx := repD_cells (opd_rep s hy) hxs
        obtain ⟨vs', k1, k2, k3⟩ := s_fillS s sz rest ps' (putVals vs (i * sz) (a.eval x).cells.toList) _ cs' hps (repCs_put hr hx (by rw [hsz.1]; exact hsz.2)) hb
        refine ⟨vs', ?_, k2, by rw [k3, putVals_size]⟩
        have hsize : (a.eval x).cells.size = sz := by have := hx.1; simp at this; omega
        have hvs : vs.length = cs.length := hr.1
        have hfold := foldl_put (a.eval x).cells.toList (i * sz) 0 vs.toArray
        simp only [Nat.add_zero] at hfold
        simp only [List.map_cons, Instr.fill]
        rw [if_neg (by simp [hsize]; omega)]
        have hz : (a.eval x).cells.zipIdx.foldl (fun (cs : Array Value) (p : Value × Nat) => cs.setIfInBounds (i * sz + p.2) p.1) vs.toArray = (putVals vs (i * sz) (a.eval x).cells.toList).toArray := by
          apply Array.ext'
          rw [← Array.foldl_toList, Array.toList_zipIdx]
          simpa using hfold
        rw [← k1]
        congr 1
      · cases hb
    · cases hb

theorem s_mks {t : TypeId} {len : Nat} {parts : Array (Nat × Operand)} {co : EOp} (hc : compE P g (.buildSlice t len parts) = some co) (s : St X σ m w a e) (hk : eop P co e m K) :
    ∃ v w', (Instr.buildSlice t len (parts.map fun (i, x) => (i, a.eval x))).run P w = .ok v w' ∧ Left X σ m w K v w' ∧ Grow w w' := by
  simp only [compE] at hc
  split at hc
  · rename_i el ht
    obtain ⟨i, hi, hc⟩ := opdO hc
    obtain ⟨z, hz, hc⟩ := opdO hc
    split at hc
    · cases hc
    · rename_i hcond
      simp only [not_or] at hcond
      obtain ⟨ps, hps, hc⟩ := opdO hc
      cases hc
      simp only [eop] at hk
      split at hk
      · rename_i cs hb
        cases hzv : i.zero with
        | none => simp [hzv, zeroOf] at hz
        | some zv =>
          rw [hzv] at hz
          have hzr : RepCs σ (Lv X σ m) w zv.cells.toList z := zeroOf_rep hz
          have hzl : zv.cells.toList.length = i.size := by rw [hzr.1]; omega
          have hrep := rep_many hzr len
          obtain ⟨vs', k1, k2, k3⟩ := s_fillS s i.size parts.toList ps _ _ cs hps hrep hb
          have hlen : vs'.length = len * i.size := by rw [k3]; simp [hzl]
          obtain ⟨h1, h2⟩ := mem_new s.mem (c := vs'.toArray) (cs := cs) el (by rw [← k2.1]; simp) (fun j x hj => by obtain ⟨u, q1, q2⟩ := k2.2 j x hj; exact ⟨u, by simpa using q1, q2⟩)
          refine ⟨.slice (some ⟨w.heap.size, 0, none⟩) len len, w.alloc (.cells vs'.toArray el), ?_, ⟨_, _, _, hk, .inr ⟨w.heap.size, _, len, up_same _ _ _, rfl, Nat.le_refl _, by simp [hlen]⟩, h1, h2, by simp⟩, grow_alloc _ _⟩
          have hzero := run_zero (P := P) hi hzv
          have hbig : ¬ len * i.size > 2 ^ 24 := by have := hcond.2.2; omega
          have hparts : (parts.map fun (i, x) => (i, a.eval x)).toList = parts.toList.map fun (x : Nat × Operand) => (x.1, a.eval x.2) := by simp
          by_cases h0 : len * i.size = 0
          · have hl0 : len = 0 := by rcases Nat.mul_eq_zero.1 h0 with h | h; exact h; exact absurd h hcond.2.1
            subst hl0
            simp only [Nat.zero_mul, List.range_zero, List.map_nil] at k1
            simp only [Instr.buildSlice, Sem.run_bind, run_underlying ht, Result.andThen_ok, run_sizeOf _ hi, Program.cellsOf, hi, Option.map_some, Option.getD_some, hparts]
            have e0 : ∀ f : Nat → Value, Array.map f (Array.range 0) = #[] := fun f => by apply Array.ext'; simp
            simp only [Nat.zero_mul, e0, k1, if_pos]
            simp [newRow]
          · have hinit : ((Array.range (len * i.size)).map fun x => zv.cells[x % zv.cells.size]!) = ((List.range (len * zv.cells.toList.length)).map fun i => zv.cells.toList.getD (i % zv.cells.toList.length) default).toArray := by
              apply Array.ext'
              have := mod_zero zv.cells.toList len
              rw [hzl] at this ⊢
              simpa using this
            simp only [Instr.buildSlice, Sem.run_bind, run_underlying ht, Result.andThen_ok, run_sizeOf _ hi, Program.cellsOf, hi, Option.map_some, Option.getD_some, hparts]
            simp only [if_neg hbig, if_neg h0, Sem.run_bind, hzero, Result.andThen_ok, pure_bind]
            simp only [hinit, k1]
            simp [newRow]
      · exact hk.elim
  · cases hc

theorem s_mk {t : TypeId} {l c : Operand} {co : EOp} (hc : compE P g (.makeSlice t l c) = some co) (s : St X σ m w a e) (hk : eop P co e m K) :
    ∃ v w', (Instr.makeSlice t (a.eval l) (a.eval c)).run P w = .ok v w' ∧ Left X σ m w K v w' ∧ Grow w w' := by
  simp only [compE] at hc
  split at hc
  · rename_i el ht
    obtain ⟨i, hi, hc⟩ := opdO hc
    obtain ⟨z, hz, hc⟩ := opdO hc
    split at hc
    · cases hc
    · rename_i hcond
      simp only [not_or] at hcond
      obtain ⟨l', hl, hc⟩ := opdO hc
      obtain ⟨c', hcc, hc⟩ := opdO hc
      cases hc
      have hlv := opd_rep s hl
      have hcv := opd_rep s hcc
      simp only [eop] at hk
      split at hk
      · rename_i ln cp hev hev'
        rw [hev] at hlv; rw [hev'] at hcv
        obtain ⟨h0, h1, hmx, hb, hk⟩ := hk
        cases hzv : i.zero with
        | none => simp [hzv, zeroOf] at hz
        | some zv =>
          rw [hzv] at hz
          have hzr : RepCs σ (Lv X σ m) w zv.cells.toList z := zeroOf_rep hz
          have hzl : zv.cells.toList.length = i.size := by rw [hzr.1]; omega
          have hrepl := rep_many hzr ln.toNat
          have hw1 : IntKind.i64.wrap cp = cp := by simp only [IntKind.wrap, IntKind.bits, IntKind.signed]; simp; omega
          have hw2 : IntKind.i64.wrap ln = ln := by simp only [IntKind.wrap, IntKind.bits, IntKind.signed]; simp; omega
          have hle : ln.toNat * i.size ≤ cp.toNat * i.size := Nat.mul_le_mul_right _ (by omega)
          let vs := (List.range (cp.toNat * zv.cells.toList.length)).map fun i => zv.cells.toList.getD (i % zv.cells.toList.length) default
          have hvl : vs.length = cp.toNat * i.size := by simp [vs, hzl]
          obtain ⟨q1, q2⟩ := mem_new s.mem (c := vs.toArray) (cs := manyC ln.toNat z) el (by rw [← hrepl.1, List.size_toArray, hvl, List.length_map, List.length_range, hzl]; exact hle) (fun j x hj => by
            obtain ⟨u, r1, r2⟩ := hrepl.2 j x hj
            refine ⟨u, ?_, r2⟩
            rw [List.getElem?_map, Option.map_eq_some_iff] at r1
            obtain ⟨k, r3, r4⟩ := r1
            obtain ⟨hlt, r5⟩ := List.getElem?_eq_some_iff.1 r3
            rw [List.length_range, hzl] at hlt
            rw [List.getElem_range] at r5
            subst r5
            rw [List.getElem?_toArray, List.getElem?_map, List.getElem?_range (by rw [hzl]; omega)]
            simpa using r4)
          refine ⟨.slice (some ⟨w.heap.size, 0, none⟩) ln.toNat cp.toNat, w.alloc (.cells vs.toArray el), ?_, ⟨_, _, _, hk, .inr ⟨w.heap.size, _, cp.toNat, up_same _ _ _, rfl, by omega, by rw [List.size_toArray, hvl]; omega⟩, q1, q2, by simp⟩, grow_alloc _ _⟩
          have hzero := run_zero (P := P) hi hzv
          have hinit : ((Array.range (cp.toNat * i.size)).map fun x => zv.cells[x % zv.cells.size]!) = vs.toArray := by
            apply Array.ext'
            have := mod_zero zv.cells.toList cp.toNat
            rw [hzl] at this
            simpa [vs, hzl] using this
          have g1 : ¬ cp < 0 := by omega
          have g2 : ¬ (281474976710656 : Int) < i.bytes * cp := by omega
          have g3 : ¬ ln < 0 := by omega
          have g4 : ¬ cp < ln := by omega
          rw [repD_int hlv, repD_int hcv]
          by_cases hz0 : cp.toNat * i.size = 0
          · have hvs0 : vs = [] := List.eq_nil_of_length_eq_zero (by rw [hvl]; exact hz0)
            have e0 : ∀ f : Nat → Value, Array.map f (Array.range 0) = #[] := fun f => by apply Array.ext'; simp
            simp [Instr.makeSlice, run_underlying ht, asInt, asIntOf, run_typeInfo _ hi, hw1, hw2, g1, g2, g3, g4, run_sizeOf _ hi, Program.cellsOf, hi, hz0, newRow, e0, hvs0]
          · simp only [Instr.makeSlice, Sem.run_bind, run_underlying ht, Result.andThen_ok, asInt, asIntOf, pure_bind, run_typeInfo _ hi, hw1, hw2]
            simp [g1, g2, g3, g4, run_sizeOf _ hi, Program.cellsOf, hi, hz0, hzero, newRow, hinit]
      · exact hk.elim
  · cases hc

theorem s_st {t : TypeId} {x v : Operand} {co : EOp} (hc : compE P g (.store t x v) = some co) (s : St X σ m w a e) (hk : eop P co e m K) :
    ∃ w', (Instr.storeAt t (a.eval x) (a.eval v)).run P w = .ok () w' ∧ Left X σ m w K undef w' := by
  simp only [compE] at hc
  obtain ⟨i, hi, hc⟩ := opdO hc
  obtain ⟨x', hx, hc⟩ := opdO hc
  obtain ⟨v', hv, hc⟩ := opdO hc
  cases hc
  have hxv := opd_rep s hx
  have hvv := opd_rep s hv
  simp only [eop] at hk
  split at hk
  · rename_i id off xs hev hcs
    rw [hev] at hxv
    obtain ⟨b, N, h1, h2⟩ := hxv
    obtain ⟨hlen, cs, hid, hle, hk⟩ := hk
    have hr := repD_cells hvv hcs
    rcases s.mem.blk id cs hid with ⟨k1, _⟩ | ⟨b', N', k1, c, e0, k2, k3, k4, k5⟩
    · rw [h1] at k1; cases k1
    · rw [h1] at k1; cases k1
      have hvs : (a.eval v).cells.toList.length = i.size := by rw [hr.1]; exact hlen
      have hst := run_storeCells_at P b off e0 (a.eval v).cells.toList 0 c w k2 (by rw [hvs]; omega) (repC_one_list hr)
      simp only [Nat.add_zero, hvs] at hst
      have hrun : (Instr.storeAt t (a.eval x) (a.eval v)).run P w = .ok () (w.setRow b (c.toList.take off ++ (a.eval v).cells.toList ++ c.toList.drop (off + i.size)).toArray) := by
        have hsz : (a.eval v).cells.size = i.size := by simpa using hvs
        simp [Instr.storeAt, Instr.sureAddr, storeVar, h2, run_sizeOf _ hi, Program.cellsOf, hi, hsz, hst]
      have hn : (c.toList.take off ++ (a.eval v).cells.toList ++ c.toList.drop (off + i.size)).length = c.size := by
        rw [List.length_append, List.length_append, hvs]; simp; omega
      obtain ⟨q1, q2⟩ := mem_write s.mem (cs' := putCells cs off xs) (c' := (c.toList.take off ++ (a.eval v).cells.toList ++ c.toList.drop (off + i.size)).toArray) hid h1 k2
        (by rw [List.size_toArray, hn, k3]) (by rw [List.size_toArray, hn, putCells_size]; omega) (fun j y hj => by
          rw [putCells_get _ _ _ _ (by omega)] at hj
          have htl : (c.toList.take off).length = off := by simp; omega
          simp only [List.getElem?_toArray]
          by_cases hc : off ≤ j ∧ j < off + xs.length
          · rw [if_pos hc] at hj
            obtain ⟨u, r1, r2⟩ := hr.2 _ _ hj
            refine ⟨u, ?_, r2⟩
            rw [List.getElem?_append_left (by rw [List.length_append, htl, hvs]; omega), List.getElem?_append_right (by rw [htl]; exact hc.1), htl]
            exact r1
          · rw [if_neg hc] at hj
            obtain ⟨u, r1, r2⟩ := k5 j y hj
            refine ⟨u, ?_, r2⟩
            by_cases hlo : j < off
            · rw [List.getElem?_append_left (by rw [List.length_append, htl]; omega), List.getElem?_append_left (by rw [htl]; exact hlo), List.getElem?_take, if_pos hlo]; simpa using r1
            · rw [List.getElem?_append_right (by rw [List.length_append, htl, hvs]; omega), List.getElem?_drop, List.length_append, htl, hvs, show off + i.size + (j - (off + i.size)) = j from by omega]; simpa using r1)
      exact ⟨_, hrun, _, _, _, hk, trivial, q1, q2, by simp⟩
  · exact hk.elim

theorem many_len {z : List C} {n : Nat} (h : z.length = n) : ∀ k : Nat, (manyC k z).length = k * n
  | 0 => by simp [manyC]
  | k + 1 => by rw [manyC, List.length_append, many_len h k, h, Nat.add_mul]; omega

theorem s_clr {t el : TypeId} {i : TypeInfo} {zv : Value} {z : List C} {x : Operand} {x' : Opd} {ty : TypeId} (ht : P.underlying t = some (.slice el)) (hi : P.info? el = some i) (hzv : i.zero = some zv) (hz : zeroOf (some zv) = some z) (hzl : z.length = i.size) (h0 : i.size ≠ 0)
    (hx : copd x = some x') (s : St X σ m w a e) (hk : eop P (.clr i.size z x') e m K) :
    ∃ w', (Builtin.clear_ #[t] ty #[a.eval x]).run P w = .ok (.tuple #[]) w' ∧ Left X σ m w K (.tuple #[]) w' := by
  have hxv := opd_rep s hx
  have hzr : RepCs σ (Lv X σ m) w zv.cells.toList z := zeroOf_rep hz
  simp only [eop] at hk
  split at hk
  · rename_i hev
    rw [hev] at hxv
    obtain ⟨A, hv⟩ := hxv
    exact ⟨w, by rw [hv]; cases A <;> simp [Builtin.clear_, run_underlying ht], _, _, _, hk, trivial, s.mem, Tr.refl _ _ _ _, Nat.le_refl _⟩
  · rename_i sz' id off len hev
    rw [hev] at hxv
    obtain ⟨rfl, hlen, cs, hid, hle, hk⟩ := hk
    rcases Nat.eq_zero_or_pos len with rfl | hpos
    · have hv : ∃ A cap, a.eval x = .slice A 0 cap := by
        rcases hxv with ⟨_, _, A, hv⟩ | ⟨b, N, cap, _, hv, _⟩
        · exact ⟨A, 0, hv⟩
        · exact ⟨_, cap, hv⟩
      obtain ⟨A, cap, hv⟩ := hv
      have hsame : m.set id (.cells (putCells cs off (manyC 0 z))) = m := by
        rw [manyC, show putCells cs off [] = cs from rfl]
        apply List.ext_getElem?
        intro j
        rw [List.getElem?_set]
        split
        · rename_i h; subst h
          rw [if_pos (List.getElem?_eq_some_iff.1 hid).1, hid]
        · rfl
      rw [hsame] at hk
      exact ⟨w, by rw [hv]; cases A <;> simp [Builtin.clear_, run_underlying ht], _, _, _, hk, trivial, s.mem, Tr.refl _ _ _ _, Nat.le_refl _⟩
    · rcases hxv with ⟨_, h, _⟩ | ⟨b, N, cap, h1, hv, h2⟩
      · omega
      have hr := rep_many hzr len
      generalize hvs' : ((List.range (len * zv.cells.toList.length)).map fun i => zv.cells.toList.getD (i % zv.cells.toList.length) default) = vs at hr
      rcases s.mem.blk id cs hid with ⟨k1, _⟩ | ⟨b', N', k1, c, e0, k2, k3, k4, k5⟩
      · rw [h1] at k1; cases k1
      · rw [h1] at k1; cases k1
        have hvs : vs.length = len * i.size := by rw [hr.1]; exact hlen
        have hst := run_storeCells_at P b off e0 vs 0 c w k2 (by rw [hvs]; omega) (repC_one_list hr)
        simp only [Nat.add_zero, hvs] at hst
        have hzc : (Builtin.zeroCells zv.cells len).toList = vs := by
          rw [← hvs', ← mod_zero zv.cells.toList len]
          simp [Builtin.zeroCells]
        obtain ⟨k, rfl⟩ : ∃ k, len = k + 1 := ⟨len - 1, by omega⟩
        have hrun : (Builtin.clear_ #[t] ty #[a.eval x]).run P w = .ok (.tuple #[]) (w.setRow b (c.toList.take off ++ vs ++ c.toList.drop (off + (k + 1) * i.size)).toArray) := by
          rw [hv]
          have hzero := run_zero (P := P) hi hzv
          simp [Builtin.clear_, run_underlying ht, hzero, hzc, hst]
        have hn : (c.toList.take off ++ vs ++ c.toList.drop (off + (k + 1) * i.size)).length = c.size := by
          rw [List.length_append, List.length_append, hvs]; simp; omega
        obtain ⟨q1, q2⟩ := mem_write s.mem (cs' := putCells cs off (manyC (k + 1) z)) (c' := (c.toList.take off ++ vs ++ c.toList.drop (off + (k + 1) * i.size)).toArray) hid h1 k2
          (by rw [List.size_toArray, hn, k3]) (by rw [List.size_toArray, hn, putCells_size]; omega) (fun j y hj => by
            rw [putCells_get _ _ _ _ (by omega)] at hj
            have htl : (c.toList.take off).length = off := by simp; omega
            simp only [List.getElem?_toArray]
            by_cases hc : off ≤ j ∧ j < off + (manyC (k + 1) z).length
            · rw [if_pos hc] at hj
              obtain ⟨u, r1, r2⟩ := hr.2 _ _ hj
              refine ⟨u, ?_, r2⟩
              rw [List.getElem?_append_left (by rw [List.length_append, htl, hvs]; omega), List.getElem?_append_right (by rw [htl]; exact hc.1), htl]
              exact r1
            · rw [if_neg hc] at hj
              obtain ⟨u, r1, r2⟩ := k5 j y hj
              refine ⟨u, ?_, r2⟩
              by_cases hlo : j < off
              · rw [List.getElem?_append_left (by rw [List.length_append, htl]; omega), List.getElem?_append_left (by rw [htl]; exact hlo), List.getElem?_take, if_pos hlo]; simpa using r1
              · rw [List.getElem?_append_right (by rw [List.length_append, htl, hvs]; omega), List.getElem?_drop, List.length_append, htl, hvs, show off + (k + 1) * i.size + (j - (off + (k + 1) * i.size)) = j from by omega]; simpa using r1)
        exact ⟨_, hrun, _, _, _, hk, trivial, q1, q2, by simp⟩
  · exact hk.elim

end
end Go.Proofs.YtneiicadhjdbiaaGreat.Ab

namespace Go.Proofs.YtneiicadhjdbiaaGreat.Ab
open Go

section
variable {P : Program} {g : Bool} {X : Nat → Prop} {σ : Sg} {m : List Blk} {w : World} {a : Act} {e : Env} {K : D → List Blk → Prop}

/-- Memory that was there is as it was, where that is promised. -/
def EOp.grows : EOp → Bool
  | .new _ | .box _ | .mks .. | .mk .. => true
  | .call g _ _ | .callv g _ _ => g
  | _ => false

theorem args_rep (s : St X σ m w a e) : ∀ (l : List Operand) (ys : List Opd), l.mapM copd = some ys → RepDs σ (Lv X σ m) w (l.map a.eval) (ys.map (ev e))
  | [], ys, h => by simp only [List.mapM_nil] at h; cases h; exact ⟨rfl, fun i d hd => by simp at hd⟩
  | x :: r, ys, h => by
    rw [List.mapM_cons] at h
    obtain ⟨y, hy, h⟩ := opdO h
    obtain ⟨ys', hys, h⟩ := opdO h
    cases h
    obtain ⟨h1, h2⟩ := args_rep s r ys' hys
    refine ⟨by simp at h1 ⊢; exact h1, fun i d hd => ?_⟩
    cases i with
    | zero => simp at hd; subst hd; exact ⟨_, rfl, opd_rep s hy⟩
    | succ i => simp at hd; obtain ⟨u, k1, k2⟩ := h2 i d (by simpa using hd); exact ⟨u, by simpa using k1, k2⟩

theorem run_callFunc {f : Nat} (h : isFn P f = true) (args : Array Value) (w : World) : (callFunc f args).run P w = .ok (.enter f args) w := by
  unfold isFn at h
  cases hf : P.funcs[f]? with
  | none => simp [hf] at h
  | some fn =>
    simp only [hf, Bool.and_eq_true] at h
    have h1 : (fn.name == "runtime.NumGoroutine") = false := by have := h.2; simpa [bne] using this
    have h2 : fn.body.isNone = false := by cases hb : fn.body with | none => simp [hb] at h | some b => rfl
    simp only [callFunc, Sem.run_bind, run_program, Result.andThen_ok, hf, h1, h2]
    simp

/-- What is left behind an operation, with the promise. -/
def LeftG (g : Bool) (X : Nat → Prop) (σ : Sg) (m : List Blk) (w : World) (K : D → List Blk → Prop) (v : Value) (w' : World) : Prop :=
  Left X σ m w K v w' ∧ (g = true → Grow w w')

theorem e_sound {o : Oper} {co : EOp} (hc : compE P g o.op = some co) (s : St X σ m w a e) (hk : eop P co e m K) {next : Act → World → Prop} {Q : Exit → Act → World → Prop}
    (hn : ∀ v w', LeftG co.grows X σ m w K v w' → next (a.put o.dst v) w') : o.wp P a w next Q := by
  obtain ⟨dst, op, ty, pos, after, guard⟩ := o
  have fin : ∀ (sv : Sem Value), (∃ v w', sv.run P w = .ok v w' ∧ LeftG co.grows X σ m w K v w') →
      (execOp a.eval ⟨dst, op, ty, pos, after, guard⟩).run P w = (do pure (Next.value (← sv)) : Sem Next).run P w → Oper.wp P ⟨dst, op, ty, pos, after, guard⟩ a w next Q := by
    rintro sv ⟨v, w', h1, h2⟩ h
    unfold Oper.wp
    rw [h]
    simp only [Sem.run_bind, h1, Result.andThen_ok, Sem.run_pure]
    exact hn v w' h2
  have calls : ∀ (f : Nat) (vs : List Value) (ds : List D) (gg : Bool), isFn P f = true → AFunG P gg f ds m K → RepDs σ (Lv X σ m) w vs ds → co.grows = gg →
      (execOp a.eval ⟨dst, op, ty, pos, after, guard⟩).run P w = .ok (.enter f vs.toArray) w → Oper.wp P ⟨dst, op, ty, pos, after, guard⟩ a w next Q := by
    intro f vs ds gg _ hA hr hgg hrun
    unfold Oper.wp
    rw [hrun]
    refine (hA X σ w vs s.mem hr).mono ?_
    rintro e' w' ⟨⟨v, d, m', σ', rfl, h1, h2, h3, h4, h5⟩, h6⟩
    exact hn v w' ⟨⟨d, m', σ', h1, h2, h3, h4, h5⟩, fun h => h6 (hgg ▸ h)⟩
  cases op with
  | alloc t =>
    simp only [compE] at hc
    obtain ⟨z, hz, hc⟩ := opdO hc
    cases hc
    obtain ⟨i, zv, hi, hzv, hz⟩ := zero_info hz
    obtain ⟨v', w', h1, h2⟩ := new_left (P := P) (v := zv) s.mem t (zeroOf_rep hz) hk
    have hw : w' = w.alloc (.cells zv.cells t) := by simp [newVar, newRow] at h1; exact h1.2.symm
    subst hw
    exact fin (Instr.alloc t true (.tuple #[])) ⟨v', _, by simpa [Instr.alloc, run_zero hi hzv] using h1, h2, fun _ => grow_alloc _ _⟩ rfl
  | box t x =>
    simp only [compE] at hc
    obtain ⟨x', hx, hc⟩ := opdO hc
    cases hc
    simp only [eop] at hk
    split at hk
    · rename_i cs hcs
      obtain ⟨v', w', h1, h2⟩ := new_left (P := P) (v := a.eval x) s.mem t (repD_cells (opd_rep s hx) hcs) hk
      have hw : w' = w.alloc (.cells (a.eval x).cells t) := by simp [newVar, newRow] at h1; exact h1.2.symm
      subst hw
      exact fin (Instr.box t (a.eval x)) ⟨v', _, h1, h2, fun _ => grow_alloc _ _⟩ rfl
    · exact hk.elim
  | buildSlice t len parts =>
    obtain ⟨v, w', h1, h2, h3⟩ := s_mks hc s hk
    exact fin _ ⟨v, w', h1, h2, fun _ => h3⟩ rfl
  | makeSlice t l c =>
    obtain ⟨v, w', h1, h2, h3⟩ := s_mk hc s hk
    exact fin _ ⟨v, w', h1, h2, fun _ => h3⟩ rfl
  | store t x v =>
    obtain ⟨w', h1, h2⟩ := s_st hc s hk
    have hgr : co.grows = false := by
      simp only [compE] at hc
      obtain ⟨_, _, hc⟩ := opdO hc
      obtain ⟨_, _, hc⟩ := opdO hc
      obtain ⟨_, _, hc⟩ := opdO hc
      cases hc; rfl
    unfold Oper.wp
    have : (execOp a.eval ⟨dst, .store t x v, ty, pos, after, guard⟩).run P w = .ok .skip w' := by simp [execOp, h1]
    rw [this]
    exact hn undef w' ⟨h2, fun h => by rw [hgr] at h; cases h⟩
  | call c =>
    obtain ⟨callee, args, argTypes⟩ := c
    obtain ⟨args⟩ := args
    obtain ⟨argTypes⟩ := argTypes
    simp only [compE] at hc
    split at hc
    · split at hc
      · rename_i x y t u
        split at hc
        · rename_i el el2 ht hu
          obtain ⟨i, hi, hc⟩ := opdO hc
          obtain ⟨z, hz, hc⟩ := opdO hc
          split at hc
          · cases hc
          · rename_i hcond
            simp only [not_or] at hcond
            obtain ⟨x', hx, hc⟩ := opdO hc
            obtain ⟨y', hy, hc⟩ := opdO hc
            cases hc
            cases hzv : i.zero with
            | none => simp [hzv, zeroOf] at hz
            | some zv =>
              rw [hzv] at hz
              have hzr : RepCs σ (Lv X σ m) w zv.cells.toList z := zeroOf_rep hz
              have hzl : zv.cells.size = i.size := by have := hzr.1; simp at this; omega
              obtain ⟨v, w', h1, h2⟩ := s_app (ty := ty) ht hu hi hzv hzl (by omega) (by omega) s.mem (opd_rep s hx) (opd_rep s hy) hk
              unfold Oper.wp
              have : (execOp a.eval ⟨dst, .call ⟨.builtin .append, ⟨[x, y]⟩, ⟨[t, u]⟩⟩, ty, pos, after, guard⟩).run P w = .ok (.value v) w' := by
                simp [execOp, resolve, invoke, builtin, h1]
              rw [this]
              exact hn v w' ⟨h2, fun h => by cases h⟩
        · cases hc
      · cases hc
    · split at hc
      · rename_i x t
        split at hc
        · rename_i el ht
          obtain ⟨i, hi, hc⟩ := opdO hc
          obtain ⟨z, hz, hc⟩ := opdO hc
          split at hc
          · cases hc
          · rename_i hcond
            simp only [not_or] at hcond
            obtain ⟨x', hx, hc⟩ := opdO hc
            cases hc
            cases hzv : i.zero with
            | none => simp [hzv, zeroOf] at hz
            | some zv =>
              rw [hzv] at hz
              obtain ⟨w', h1, h2⟩ := s_clr (ty := ty) ht hi hzv hz (by omega) hcond.2 hx s hk
              unfold Oper.wp
              have : (execOp a.eval ⟨dst, .call ⟨.builtin .clear, ⟨[x]⟩, ⟨[t]⟩⟩, ty, pos, after, guard⟩).run P w = .ok (.value (.tuple #[])) w' := by
                simp [execOp, resolve, invoke, builtin, h1]
              rw [this]
              exact hn _ w' ⟨h2, fun h => by cases h⟩
        · cases hc
      · cases hc
    · rename_i f
      split at hc
      · rename_i hf
        obtain ⟨ys, hys, hc⟩ := opdO hc
        cases hc
        refine calls f (args.map a.eval) _ g hf hk (args_rep s args ys hys) rfl ?_
        simp [execOp, resolve, Act.eval, Deferred.ofValue, invoke, run_callFunc hf]
      · cases hc
    · rename_i t
      obtain ⟨ys, hys, hc⟩ := opdO hc
      cases hc
      simp only [eop] at hk
      split at hk
      · rename_i f caps hev
        obtain ⟨hf, hk⟩ := hk
        have h0 := s.env t
        simp only [ev] at hev
        rw [hev] at h0
        obtain ⟨vs, hv, h1, h2⟩ := h0
        have hargs := args_rep s args ys hys
        refine calls f (args.map a.eval ++ vs.toList) _ g hf hk ⟨by have := hargs.1; simp at this ⊢; omega, fun i d hd => ?_⟩ rfl ?_
        · rw [List.getElem?_append] at hd ⊢
          rw [hargs.1]
          split at hd
          · rename_i hlt; rw [if_pos hlt]; exact hargs.2 i d hd
          · rename_i hlt; rw [if_neg hlt]
            simp only [List.getElem?_map, Option.map_eq_some_iff] at hd
            obtain ⟨p, hp, rfl⟩ := hd
            obtain ⟨b, N, q1, q2⟩ := h2 _ p hp
            exact ⟨_, by simpa using q2, b, N, q1, rfl⟩
        · simp [execOp, resolve, Act.eval, hv, Deferred.ofValue, invoke, run_callFunc hf]
      · exact hk.elim
    · cases hc
  | _ => simp [compE] at hc

end
end Go.Proofs.YtneiicadhjdbiaaGreat.Ab

namespace Go.Proofs.YtneiicadhjdbiaaGreat.Ab
open Go

inductive CO where
  | f (o : FOp)
  | e (o : EOp)

structure CI where
  dst : Option Nat
  guard : Option (Nat × Bool)
  op : CO

def CI.grows (c : CI) : Bool := match c.op with
  | .f _ => true
  | .e o => o.grows

def setE (e : Env) (dst : Option Nat) (d : D) : Env := match dst with
  | none => e
  | some t => (t, d) :: e

def aop (P : Program) (c : CO) (e : Env) (m : List Blk) (K : D → List Blk → Prop) : Prop := match c with
  | .f o => fop o e m fun d => K d m
  | .e o => eop P o e m K

def aI (P : Program) (c : CI) (e : Env) (m : List Blk) (K : Env → List Blk → Prop) : Prop := match c.guard with
  | none => aop P c.op e m fun d m' => K (setE e c.dst d) m'
  | some (g, want) => match get e g with
    | .t (.c (.v (.bool b))) => (b = want → aop P c.op e m fun d m' => K (setE e c.dst d) m') ∧ (b ≠ want → K (setE e c.dst .und) m)
    | .und => K (setE e c.dst .und) m
    | _ => False

def aIs (P : Program) : List CI → Env → List Blk → (Env → List Blk → Prop) → Prop
  | [], e, m, K => K e m
  | c :: r, e, m, K => aI P c e m fun e' m' => aIs P r e' m' K

def dstOk (n : Nat) (o : Oper) : Bool := match o.dst with
  | some d => decide (d < n)
  | none => true

def guardOf (ops : Array Oper) (o : Oper) : Option (Option (Nat × Bool)) := match o.guard with
  | none => some none
  | some (j, want) => match (ops[j]?).bind (·.dst) with
    | some t => some (some (t, want))
    | none => none

def opOf (P : Program) (g : Bool) (o : Op) : Option CO := match compF P o with
  | some f => some (.f f)
  | none => match compE P g o with
    | some q => some (.e q)
    | none => none

def compI (P : Program) (g : Bool) (n : Nat) (ops : Array Oper) (i : Nat) : Option CI :=
  match ops[i]? with
  | none => none
  | some o => if dstOk n o then do some ⟨o.dst, ← guardOf ops o, ← opOf P g o.op⟩ else none

def compSeq (P : Program) (n : Nat) (ops : Array Oper) : List Nat → Option (List CI)
  | [] => some []
  | i :: r => match compI P false n ops i, compSeq P n ops r with
    | some c, some l => some (c :: l)
    | _, _ => none

structure Rl (n : Nat) (X : Nat → Prop) (σ : Sg) (m : List Blk) (w : World) (a : Act) (e : Env) : Prop extends St X σ m w a e where
  size : a.tmps.size = n
  defers : a.defers = []

section
variable {P : Program} {g : Bool} {n : Nat} {X : Nat → Prop} {σ : Sg} {m : List Blk} {w : World} {a : Act} {e : Env} {ops : Array Oper} {Q : Exit → Act → World → Prop}

theorem rl_put {σ' : Sg} {m' : List Blk} {w' : World} {dst : Option Nat} {v : Value} {d : D} (r : Rl n X σ m w a e) (hd : ∀ t, dst = some t → t < n) (hm : MemOk X σ' m' w') (tr : Tr m.length σ m w σ' m' w') (hv : RepD σ' (Lv X σ' m') w' v d) :
    Rl n X σ' m' w' (a.put dst v) (setE e dst d) := by
  have g := tr.chg r.mem
  cases dst with
  | none => exact ⟨⟨fun t => (r.env t).mono g, hm⟩, r.size, r.defers⟩
  | some t0 =>
    refine ⟨⟨fun t => ?_, hm⟩, by simp [Act.put, r.size], r.defers⟩
    have hlt := hd t0 rfl
    simp only [setE, get, Act.put]
    by_cases h : t = t0
    · subst h
      rw [if_pos rfl]
      have : (a.tmps.setIfInBounds t v).getD t undef = v := by simp [r.size, hlt]
      rw [this]; exact hv
    · rw [if_neg h]
      have : (a.tmps.setIfInBounds t0 v).getD t undef = a.tmps.getD t undef := by simp [Array.getElem?_setIfInBounds_ne (Ne.symm h)]
      rw [this]; exact (r.env t).mono g

theorem compI_parts {i : Nat} {ci : CI} (h : compI P g n ops i = some ci) : ∃ o, ops[i]? = some o ∧ ci.dst = o.dst ∧ (∀ t, o.dst = some t → t < n) ∧
    ((∃ f, compF P o.op = some f ∧ ci.op = .f f) ∨ (∃ q, compE P g o.op = some q ∧ ci.op = .e q)) ∧
    ((o.guard = none ∧ ci.guard = none) ∨ ∃ j want t, o.guard = some (j, want) ∧ (ops[j]?).bind (·.dst) = some t ∧ ci.guard = some (t, want)) := by
  unfold compI at h
  split at h
  · cases h
  · rename_i o ho
    refine ⟨o, ho, ?_⟩
    split at h
    · rename_i hd
      have hd' : ∀ t, o.dst = some t → t < n := fun t ht => by unfold dstOk at hd; rw [ht] at hd; simpa using hd
      obtain ⟨gd, hgd, h⟩ := opdO h
      obtain ⟨q, hq, h⟩ := opdO h
      cases h
      refine ⟨rfl, hd', ?_, ?_⟩
      · unfold opOf at hq
        split at hq
        · rename_i f hf; cases hq; exact .inl ⟨f, hf, rfl⟩
        · split at hq
          · rename_i q' hq'; cases hq; exact .inr ⟨q', hq', rfl⟩
          · cases hq
      · unfold guardOf at hgd
        split at hgd
        · rename_i hgu; cases hgd; exact .inl ⟨hgu, rfl⟩
        · rename_i j want hgu
          split at hgd
          · rename_i t ht; cases hgd; exact .inr ⟨j, want, t, hgu, ht, rfl⟩
          · cases hgd
    · cases h

theorem yielded_bool (s : St X σ m w a e) {j t : Nat} {b : Bool} (hj : (ops[j]?).bind (·.dst) = some t) (h : get e t = .t (.c (.v (.bool b)))) : yielded ops a.tmps j = some b := by
  have := s.env t
  rw [h] at this
  have hv := repD_bool this
  unfold yielded
  rw [hj]
  simp only [Option.bind_some]
  cases hq : a.tmps[t]? with
  | none => simp [hq, undef] at hv
  | some u => simp [hq] at hv; subst hv; rfl

theorem yielded_und (s : St X σ m w a e) {j t : Nat} (hj : (ops[j]?).bind (·.dst) = some t) (h : get e t = .und) : yielded ops a.tmps j = none := by
  have := s.env t
  rw [h] at this
  have hv : a.tmps.getD t undef = undef := this
  unfold yielded
  rw [hj]
  simp only [Option.bind_some]
  cases hq : a.tmps[t]? with
  | none => rfl
  | some u => simp [hq] at hv; subst hv; rfl

/-- The guard of an operation, decided. -/
theorem guard_cases {ci : CI} {o : Oper} (s : St X σ m w a e) (hg : (o.guard = none ∧ ci.guard = none) ∨ ∃ j want t, o.guard = some (j, want) ∧ (ops[j]?).bind (·.dst) = some t ∧ ci.guard = some (t, want))
    {K : Env → List Blk → Prop} (hk : aI P ci e m K) :
    (Region.wanted o (yielded ops a.tmps) = true ∧ aop P ci.op e m fun d m' => K (setE e ci.dst d) m') ∨ (Region.wanted o (yielded ops a.tmps) = false ∧ K (setE e ci.dst .und) m) := by
  unfold aI at hk
  rcases hg with ⟨h1, h2⟩ | ⟨j, want, t, h1, h2, h3⟩
  · rw [h2] at hk
    exact .inl ⟨by simp [Region.wanted, h1], hk⟩
  · rw [h3] at hk
    simp only at hk
    split at hk
    · rename_i b hb
      have hy := yielded_bool (ops := ops) s h2 hb
      by_cases hbw : b = want
      · exact .inl ⟨by simp [Region.wanted, h1, hy, hbw], hk.1 hbw⟩
      · exact .inr ⟨by simp [Region.wanted, h1, hy, hbw], hk.2 hbw⟩
    · rename_i hb
      have hy := yielded_und (ops := ops) s h2 hb
      exact .inr ⟨by simp [Region.wanted, h1, hy], hk⟩
    · exact hk.elim

/-- An operation that changes no memory, in a region. -/
theorem fi_sound {i : Nat} {ci : CI} {f : FOp} {o : Oper} (ho : ops[i]? = some o) (hc : compI P g n ops i = some ci) (hf : ci.op = .f f) (r : Rl n X σ m w a e) {K : Env → List Blk → Prop} (hk : aI P ci e m K) :
    ∃ v e', YieldsIf P ops (fun w' => pureF f = true ∨ Grow w w') o v a ∧ K e' m ∧ Rl n X σ m w (a.put o.dst v) e' := by
  obtain ⟨o', ho', hdst, hd, hop, hg⟩ := compI_parts hc
  rw [ho] at ho'; cases ho'
  rcases guard_cases r.toSt hg hk with ⟨hw, hk⟩ | ⟨hw, hk⟩
  · rcases hop with ⟨f', hcf, hf'⟩ | ⟨q, _, hq⟩
    · rw [hf] at hf'; cases hf'
      rw [hf] at hk
      simp only [aop] at hk
      obtain ⟨v, d, h1, h2, h3⟩ := f_sound hcf r.toSt hk
      refine ⟨v, _, .inl ⟨hw, h3⟩, h1, ?_⟩
      rw [hdst]
      exact rl_put r hd r.mem (Tr.refl _ _ _ _) h2
    · rw [hf] at hq; cases hq
  · refine ⟨undef, _, .inr ⟨hw, rfl⟩, hk, ?_⟩
    rw [hdst]
    exact rl_put r hd r.mem (Tr.refl _ _ _ _) rfl

theorem i_sound {i : Nat} {ci : CI} (hc : compI P g n ops i = some ci) (r : Rl n X σ m w a e) {K : Env → List Blk → Prop} (hk : aI P ci e m K) {next : Act → World → Prop}
    (hn : ∀ a' w' σ' m' e', K e' m' → Rl n X σ' m' w' a' e' → Tr m.length σ m w σ' m' w' → m.length ≤ m'.length → (ci.grows = true → Grow w w') → next a' w') : wpOp P ops Q i next a w := by
  obtain ⟨o, ho, hdst, hd, hop, hg⟩ := compI_parts hc
  rcases hop with ⟨f, hcf, hf⟩ | ⟨q, hcq, hq⟩
  · obtain ⟨v, e', h1, h2, h3⟩ := fi_sound ho hc hf r hk
    exact YieldsIf.wpOp ho h1 (.inr (Grow.refl w)) (hn _ _ _ _ _ h2 h3 (Tr.refl _ _ _ _) (Nat.le_refl _) fun _ => Grow.refl w)
  · unfold wpOp
    simp only [ho]
    rcases guard_cases r.toSt hg hk with ⟨hw, hk⟩ | ⟨hw, hk⟩
    · rw [if_pos hw]
      rw [hq] at hk
      simp only [aop] at hk
      refine .inl (e_sound hcq r.toSt hk ?_)
      rintro v w' ⟨⟨d, m', σ', h1, h2, h3, h4, h5⟩, h6⟩
      refine hn _ _ σ' m' _ h1 ?_ h4 h5 fun hgr => h6 (by simpa [CI.grows, hq] using hgr)
      rw [hdst]
      exact rl_put r hd h3 h4 h2
    · rw [if_neg (by simp [hw])]
      refine hn _ _ _ _ _ hk ?_ (Tr.refl _ _ _ _) (Nat.le_refl _) fun _ => Grow.refl w
      rw [hdst]
      exact rl_put r hd r.mem (Tr.refl _ _ _ _) rfl

/-- What a piece of code leaves. -/
def Goes (n : Nat) (X : Nat → Prop) (σ : Sg) (m : List Blk) (w : World) (K : Env → List Blk → Prop) (a' : Act) (w' : World) : Prop :=
  ∃ σ' m' e', K e' m' ∧ Rl n X σ' m' w' a' e' ∧ Tr m.length σ m w σ' m' w' ∧ m.length ≤ m'.length

theorem seq_sound : ∀ (l : List Nat) (cl : List CI), compSeq P n ops l = some cl → ∀ {σ m w a e} {K : Env → List Blk → Prop}, Rl n X σ m w a e → aIs P cl e m K →
    (∀ a' w', Goes n X σ m w K a' w' → Q .normal a' w') → wpOps P ops Q l a w
  | [], cl, h, σ, m, w, a, e, K, r, hk, hq => by
    simp only [compSeq] at h
    cases h
    exact hq _ _ ⟨σ, m, e, hk, r, Tr.refl _ _ _ _, Nat.le_refl _⟩
  | i :: l, cl, h, σ, m, w, a, e, K, r, hk, hq => by
    simp only [compSeq] at h
    split at h
    · rename_i c l' hc hl
      cases h
      rw [wpOps_cons]
      refine i_sound hc r hk fun a' w' σ' m' e' hk' r' tr hle _ => ?_
      refine seq_sound l l' hl r' hk' fun a'' w'' ⟨σ'', m'', e'', q1, q2, q3, q4⟩ => hq _ _ ⟨σ'', m'', e'', q1, q2, tr.trans q3 hle, Nat.le_trans hle q4⟩
    · cases h

/-! ### any order -/
/-- What waits for operation i, at once or through others. -/
def depOf (ops : Array Oper) (i : Nat) : List Nat := (List.range ops.size).foldl (fun dep j => match ops[j]? with
  | some oj => if oj.after.any (fun e => Region.binds .any e && (e.on == i || dep.contains e.on)) then j :: dep else dep
  | none => dep) []

/-- It may have to leave memory as it was: something that reads memory is unordered with it. -/
def needG (P : Program) (n : Nat) (ops : Array Oper) (j : Nat) : Bool := (List.range ops.size).any fun i => !(depOf ops i).contains j && !(depOf ops j).contains i && match compI P true n ops i with
  | some ⟨_, _, .f (.ld _ _)⟩ => true
  | some ⟨_, _, .f (.ld1 _)⟩ => true
  | some ⟨_, _, .f (.bstr _)⟩ => true
  | _ => false

def growsAt (P : Program) (n : Nat) (ops : Array Oper) (j : Nat) : Bool := match compI P (needG P n ops j) n ops j with
  | some c => c.grows
  | none => false

/-- Whatever order; and what promises to leave memory alone does so. -/
def wpAnyG (P : Program) (ops : Array Oper) (Q : Exit → Act → World → Prop) (gr : Nat → Bool) : Nat → Array Bool → Act → World → Prop
  | 0, listed, a, w => Region.ready .any ops listed = [] ∧ Q .normal a w
  | fuel + 1, listed, a, w =>
    (Region.ready .any ops listed = [] → Q .normal a w) ∧
    ∀ i ∈ Region.ready .any ops listed, wpOp P ops Q i (fun a' w' => (gr i = true → Grow w w') ∧ wpAnyG P ops Q gr fuel (listed.setIfInBounds i true) a' w') a w

theorem wpAny_of_G {gr : Nat → Bool} : ∀ (fuel : Nat) (listed : Array Bool) (a : Act) (w : World), wpAnyG P ops Q gr fuel listed a w → wpAny P .any ops Q fuel listed a w
  | 0, _, _, _, h => h
  | fuel + 1, _, _, _, h => ⟨h.1, fun i hi => wpOp_mono (fun a' w' h' => wpAny_of_G fuel _ a' w' h'.2) (h.2 i hi)⟩

theorem yields_later {pu : Bool} {o : Oper} {v : Value} {a : Act} {w w' : World} (h : YieldsIf P ops (fun u => pu = true ∨ Grow w u) o v a) (g : pu = true ∨ Grow w w') : YieldsIf P ops (fun u => pu = true ∨ Grow w' u) o v a :=
  h.imp (fun ⟨h1, h2⟩ => ⟨h1, fun w'' g' => h2 w'' (by
    rcases g with g | g
    · exact .inl g
    · rcases g' with g' | g'
      · exact .inl g'
      · exact .inr (g.trans g'))⟩) id

theorem wpAnyG_first {gr : Nat → Bool} {pu : Bool} {i : Nat} {oi : Oper} {v : Value} (dep : List Nat) (hi : ops[i]? = some oi) (hsel : ∀ (j : Nat) (o : Oper) cs b, ops[j]? = some o → o.op ≠ .select cs b)
    (hQ : ∀ c a w, ¬ Q (.panic c) a w) (hdep : ∀ j ∈ dep, ∀ oj, ops[j]? = some oj → ∃ e ∈ oj.after, Region.binds .any e = true ∧ (e.on = i ∨ e.on ∈ dep)) :
    ∀ (fuel : Nat) (listed : Array Bool) (a : Act) (w : World),
      (∀ j oj, ops[j]? = some oj → j ≠ i → j ∉ dep → listed.getD j true = false → oi.apart ops oj = true ∧ (pu = true ∨ gr j = true)) → (∀ j ∈ dep, listed.getD j true = false) →
      i ∈ Region.ready .any ops listed → YieldsIf P ops (fun u => pu = true ∨ Grow w u) oi v a →
      wpAnyG P ops Q gr fuel (listed.setIfInBounds i true) (a.put oi.dst v) w → wpAnyG P ops Q gr (fuel + 1) listed a w := by
  intro fuel
  induction fuel with
  | zero =>
    intro listed a w _ _ hr hy H
    refine ⟨fun h => (by rw [h] at hr; cases hr), fun j hj => ?_⟩
    by_cases hji : j = i
    · subst hji; exact hy.wpOp hi (.inr (Grow.refl w)) ⟨fun _ => Grow.refl w, H⟩
    · have := ready_mono hj hji
      rw [H.1] at this
      cases this
  | succ fuel ih =>
    intro listed a w hfree hun0 hr hy H
    refine ⟨fun h => (by rw [h] at hr; cases hr), fun j hj => ?_⟩
    by_cases hji : j = i
    · subst hji; exact hy.wpOp hi (.inr (Grow.refl w)) ⟨fun _ => Grow.refl w, H⟩
    · have h1 := H.2 j (ready_mono hj hji)
      obtain ⟨hjun, oj, hoj, hall⟩ := mem_ready.1 hj
      have hnot : ∀ k, listed.getD k true = false → ∀ e ∈ oj.after, Region.binds .any e = true → e.on ≠ k := fun k hk e he hb heq => by
        have h1 := hall e he hb
        rw [heq] at h1
        rcases Nat.lt_or_ge k listed.size with h' | h'
        · simp [h'] at hk h1; rw [hk] at h1; cases h1
        · simp [Array.getElem?_eq_none h'] at h1
      have hjd : j ∉ dep := fun hjd => by
        obtain ⟨e, he, hb, h⟩ := hdep j hjd oj hoj
        rcases h with h | h
        · exact hnot i (mem_ready.1 hr).1 e he hb h
        · exact hnot e.on (hun0 _ h) e he hb rfl
      obtain ⟨hap, hgr⟩ := hfree j oj hoj hji hjd hjun
      have h2 := wpOp_putIf hoj hap (fun cs b => hsel i oi cs b hi) (fun cs b => hsel j oj cs b hoj) (fun c a w h => absurd h (hQ _ _ _)) hy h1
      have hfree' : ∀ k ok, ops[k]? = some ok → k ≠ i → k ∉ dep → (listed.setIfInBounds j true).getD k true = false → oi.apart ops ok = true ∧ (pu = true ∨ gr k = true) := fun k ok hk hki hkd hun => by
        refine hfree k ok hk hki hkd ?_
        by_cases hjk : j = k
        · subst hjk; exact hjun
        · rw [getD_set_ne true hjk] at hun; exact hun
      have hun1 : ∀ k ∈ dep, (listed.setIfInBounds j true).getD k true = false := fun k hk => by
        have hjk : j ≠ k := fun h => hjd (h ▸ hk)
        rw [getD_set_ne true hjk]; exact hun0 k hk
      refine wpOp_mono (fun a' w' h3 => ⟨h3.2.1, ih (listed.setIfInBounds j true) a' w' hfree' hun1 (ready_mono hr (Ne.symm hji)) (yields_later h3.1 (hgr.imp id h3.2.1)) ?_⟩) h2
      rw [Array.setIfInBounds_comm _ _ hji]
      exact h3.2.2

def depOk (ops : Array Oper) (i : Nat) (dep : List Nat) (listed : Array Bool) : Bool := dep.all fun j => !listed.getD j true && match ops[j]? with
  | some oj => oj.after.any (fun e => Region.binds .any e && (e.on == i || dep.contains e.on))
  | none => true

theorem depOk_spec {i : Nat} {dep : List Nat} {listed : Array Bool} (h : depOk ops i dep listed = true) :
    (∀ j ∈ dep, ∀ oj, ops[j]? = some oj → ∃ e ∈ oj.after, Region.binds .any e = true ∧ (e.on = i ∨ e.on ∈ dep)) ∧ ∀ j ∈ dep, listed.getD j true = false := by
  unfold depOk at h
  rw [List.all_eq_true] at h
  refine ⟨fun j hj oj ho => ?_, fun j hj => ?_⟩
  · have := h j hj
    rw [ho] at this
    simp only [Bool.and_eq_true] at this
    obtain ⟨e, he, hb⟩ := Array.any_eq_true'.1 this.2
    simp only [Bool.and_eq_true, Bool.or_eq_true, beq_iff_eq, List.contains_iff_mem] at hb
    exact ⟨e, he, hb⟩
  · have := h j hj
    rw [Bool.and_eq_true] at this
    simpa using this.1

def pureAt (P : Program) (n : Nat) (ops : Array Oper) (i : Nat) : Bool := match compI P (needG P n ops i) n ops i with
  | some ⟨_, _, .f f⟩ => pureF f
  | _ => false

def freeG (P : Program) (n : Nat) (ops : Array Oper) (listed : Array Bool) (i : Nat) : Bool :=
  match ops[i]? with
  | none => false
  | some oi => depOk ops i (depOf ops i) listed && (List.range ops.size).all fun j => j == i || listed.getD j true || (depOf ops i).contains j || match ops[j]? with
      | some oj => oi.apart ops oj && (pureAt P n ops i || growsAt P n ops j)
      | none => true

theorem freeG_spec {i : Nat} {oi : Oper} {listed : Array Bool} (hi : ops[i]? = some oi) (h : freeG P n ops listed i = true) :
    depOk ops i (depOf ops i) listed = true ∧ ∀ (j : Nat) (oj : Oper), ops[j]? = some oj → j ≠ i → j ∉ depOf ops i → listed.getD j true = false → oi.apart ops oj = true ∧ (pureAt P n ops i = true ∨ growsAt P n ops j = true) := by
  simp only [freeG, hi, Bool.and_eq_true] at h
  refine ⟨h.1, fun j oj hj hne hd hun => ?_⟩
  have h1 := List.all_eq_true.1 h.2 j (List.mem_range.2 (Array.getElem?_eq_some_iff.1 hj).1)
  simp only [hj, Bool.or_eq_true, beq_iff_eq, hne, false_or, hun, Bool.false_eq_true, Bool.and_eq_true, List.contains_iff_mem, hd] at h1
  exact h1

def isFi (P : Program) (n : Nat) (ops : Array Oper) (i : Nat) : Bool := match compI P (needG P n ops i) n ops i with
  | some ⟨_, _, .f _⟩ => true
  | _ => false

/-- One order that stands for all. -/
def compDraw (P : Program) (n : Nat) (ops : Array Oper) : Nat → Array Bool → Option (List CI)
  | 0, listed => if (Region.ready .any ops listed).isEmpty then some [] else none
  | fuel + 1, listed => match Region.ready .any ops listed with
    | [] => some []
    | i :: rs => match (if rs.isEmpty then some i else (i :: rs).find? fun i => isFi P n ops i && freeG P n ops listed i) with
      | some i => match compI P (needG P n ops i) n ops i, compDraw P n ops fuel (listed.setIfInBounds i true) with
        | some c, some l => some (c :: l)
        | _, _ => none
      | none => none

theorem draw_sound (hs : Region.noSelect ops = true) (hQ : ∀ c a w, ¬ Q (.panic c) a w) : ∀ (fuel : Nat) (listed : Array Bool) (cl : List CI), compDraw P n ops fuel listed = some cl →
    ∀ {σ m w a e} {K : Env → List Blk → Prop}, Rl n X σ m w a e → aIs P cl e m K → (∀ a' w', Goes n X σ m w K a' w' → Q .normal a' w') → wpAnyG P ops Q (growsAt P n ops) fuel listed a w
  | 0, listed, cl, h, σ, m, w, a, e, K, r, hk, hq => by
    simp only [compDraw] at h
    split at h
    · rename_i hemp
      cases h
      exact ⟨List.isEmpty_iff.1 hemp, hq _ _ ⟨σ, m, e, hk, r, Tr.refl _ _ _ _, Nat.le_refl _⟩⟩
    · cases h
  | fuel + 1, listed, cl, h, σ, m, w, a, e, K, r, hk, hq => by
    simp only [compDraw] at h
    split at h
    · rename_i hr
      cases h
      exact ⟨fun _ => hq _ _ ⟨σ, m, e, hk, r, Tr.refl _ _ _ _, Nat.le_refl _⟩, by rw [hr]; simp⟩
    · rename_i i0 rs hr
      split at h
      · rename_i i hpick
        split at h
        · rename_i c l hc hl
          cases h
          split at hpick
          · rename_i hemp
            cases hpick
            have hrs : rs = [] := List.isEmpty_iff.1 hemp
            subst hrs
            refine ⟨fun h0 => (by rw [h0] at hr; cases hr), fun j hj => ?_⟩
            rw [hr] at hj
            simp only [List.mem_singleton] at hj
            subst hj
            refine i_sound hc r hk fun a' w' σ' m' e' hk' r' tr hle hg => ⟨fun h => hg (by simpa [growsAt, hc] using h), ?_⟩
            exact draw_sound hs hQ fuel _ l hl r' hk' fun a'' w'' ⟨σ'', m'', e'', q1, q2, q3, q4⟩ => hq _ _ ⟨σ'', m'', e'', q1, q2, tr.trans q3 hle, Nat.le_trans hle q4⟩
          · have hmem := List.mem_of_find?_eq_some hpick
            have hp := List.find?_some hpick
            simp only [Bool.and_eq_true] at hp
            obtain ⟨hfi, hfree⟩ := hp
            rw [← hr] at hmem
            obtain ⟨_, oi, hoi, _⟩ := mem_ready.1 hmem
            have hfo : ∃ f, c.op = .f f := by
              unfold isFi at hfi
              rw [hc] at hfi
              split at hfi
              · rename_i heq; cases heq; exact ⟨_, rfl⟩
              · cases hfi
            obtain ⟨f, hf⟩ := hfo
            obtain ⟨v, e', h1, h2, h3⟩ := fi_sound hoi hc hf r hk
            obtain ⟨hok, hfr⟩ := freeG_spec hoi hfree
            obtain ⟨d1, d2⟩ := depOk_spec hok
            have hpu : pureAt P n ops i = pureF f := by
              obtain ⟨d0, g0, op0⟩ := c
              simp only at hf; subst hf
              unfold pureAt; rw [hc]
            rw [hpu] at hfr
            exact wpAnyG_first (depOf ops i) hoi (Region.noSelect_spec hs) hQ d1 fuel listed a w hfr d2 hmem h1 (draw_sound hs hQ fuel _ l hl h3 h2 hq)
        · cases h
      · cases h

/-! ### where the order matters: each that may come -/
inductive CT where
  | done
  | op (c : CI) (t : CT)
  | alt (a b : CT)

def aT (P : Program) : CT → Env → List Blk → (Env → List Blk → Prop) → Prop
  | .done, e, m, K => K e m
  | .op c t, e, m, K => aI P c e m fun e' m' => aT P t e' m' K
  | .alt a b, e, m, K => aT P a e m K ∧ aT P b e m K

def compAlts (f : Nat → Option CT) : List Nat → Option CT
  | [] => none
  | [i] => f i
  | i :: r => match f i, compAlts f r with
    | some a, some b => some (.alt a b)
    | _, _ => none

theorem compAlts_spec {f : Nat → Option CT} : ∀ (l : List Nat) (t : CT), compAlts f l = some t → ∀ i ∈ l, ∃ x, f i = some x ∧ ∀ {e : Env} {m : List Blk} {K : Env → List Blk → Prop}, aT P t e m K → aT P x e m K
  | [], _, h, _, _ => by cases h
  | [i], t, h, j, hj => by
    simp only [List.mem_singleton] at hj
    subst hj
    exact ⟨t, h, fun h => h⟩
  | i :: k :: r, t, h, j, hj => by
    simp only [compAlts] at h
    split at h
    · rename_i a b ha hb
      cases h
      rcases List.mem_cons.1 hj with rfl | hj
      · exact ⟨a, ha, fun h => h.1⟩
      · obtain ⟨x, h1, h2⟩ := compAlts_spec (k :: r) b hb j hj
        exact ⟨x, h1, fun h => h2 h.2⟩
    · cases h

def compDrawT (P : Program) (n : Nat) (ops : Array Oper) : Nat → Array Bool → Option CT
  | 0, listed => if (Region.ready .any ops listed).isEmpty then some .done else none
  | fuel + 1, listed => match Region.ready .any ops listed with
    | [] => some .done
    | i :: rs => match (i :: rs).find? fun i => isFi P n ops i && freeG P n ops listed i with
      | some i => match compI P (needG P n ops i) n ops i, compDrawT P n ops fuel (listed.setIfInBounds i true) with
        | some c, some t => some (.op c t)
        | _, _ => none
      | none => compAlts (fun j => match compI P (needG P n ops j) n ops j, compDrawT P n ops fuel (listed.setIfInBounds j true) with
        | some c, some t => some (.op c t)
        | _, _ => none) (i :: rs)

theorem drawT_sound (hs : Region.noSelect ops = true) (hQ : ∀ c a w, ¬ Q (.panic c) a w) : ∀ (fuel : Nat) (listed : Array Bool) (t : CT), compDrawT P n ops fuel listed = some t →
    ∀ {σ m w a e} {K : Env → List Blk → Prop}, Rl n X σ m w a e → aT P t e m K → (∀ a' w', Goes n X σ m w K a' w' → Q .normal a' w') → wpAnyG P ops Q (growsAt P n ops) fuel listed a w
  | 0, listed, t, h, σ, m, w, a, e, K, r, hk, hq => by
    simp only [compDrawT] at h
    split at h
    · rename_i hemp
      cases h
      exact ⟨List.isEmpty_iff.1 hemp, hq _ _ ⟨σ, m, e, hk, r, Tr.refl _ _ _ _, Nat.le_refl _⟩⟩
    · cases h
  | fuel + 1, listed, t, h, σ, m, w, a, e, K, r, hk, hq => by
    simp only [compDrawT] at h
    split at h
    · rename_i hr
      cases h
      exact ⟨fun _ => hq _ _ ⟨σ, m, e, hk, r, Tr.refl _ _ _ _, Nat.le_refl _⟩, by rw [hr]; simp⟩
    · rename_i i0 rs hr
      split at h
      · rename_i i hpick
        split at h
        · rename_i c l hc hl
          cases h
          have hmem := List.mem_of_find?_eq_some hpick
          have hp := List.find?_some hpick
          simp only [Bool.and_eq_true] at hp
          obtain ⟨hfi, hfree⟩ := hp
          rw [← hr] at hmem
          obtain ⟨_, oi, hoi, _⟩ := mem_ready.1 hmem
          have hfo : ∃ f, c.op = .f f := by
            unfold isFi at hfi
            rw [hc] at hfi
            split at hfi
            · rename_i heq; cases heq; exact ⟨_, rfl⟩
            · cases hfi
          obtain ⟨f, hf⟩ := hfo
          obtain ⟨v, e', h1, h2, h3⟩ := fi_sound hoi hc hf r hk
          obtain ⟨hok, hfr⟩ := freeG_spec hoi hfree
          obtain ⟨d1, d2⟩ := depOk_spec hok
          have hpu : pureAt P n ops i = pureF f := by
            obtain ⟨d0, g0, op0⟩ := c
            simp only at hf; subst hf
            unfold pureAt; rw [hc]
          rw [hpu] at hfr
          exact wpAnyG_first (depOf ops i) hoi (Region.noSelect_spec hs) hQ d1 fuel listed a w hfr d2 hmem h1 (drawT_sound hs hQ fuel _ l hl h3 h2 hq)
        · cases h
      · refine ⟨fun h0 => (by rw [h0] at hr; cases hr), fun j hj => ?_⟩
        rw [hr] at hj
        obtain ⟨x, hx, himp⟩ := compAlts_spec (P := P) _ _ h j hj
        have hk' := himp hk
        split at hx
        · rename_i c l hc hl
          cases hx
          refine i_sound hc r hk' fun a' w' σ' m' e' hk' r' tr hle hg => ⟨fun h => hg (by simpa [growsAt, hc] using h), ?_⟩
          exact drawT_sound hs hQ fuel _ l hl r' hk' fun a'' w'' ⟨σ'', m'', e'', q1, q2, q3, q4⟩ => hq _ _ ⟨σ'', m'', e'', q1, q2, tr.trans q3 hle, Nat.le_trans hle q4⟩
        · cases hx

def compRegionT (P : Program) (n : Nat) (ops : Array Oper) (draw : Bool) : Option CT :=
  if draw then if P.follows .mixedOrders && Region.noSelect ops then compDrawT P n ops ops.size (Array.replicate ops.size false) else none
  else none

theorem regionT_sound {id : Nat} {draw : Bool} {t : CT} (hc : compRegionT P n ops draw = some t) (hQ : ∀ c a w, ¬ Q (.panic c) a w) (r : Rl n X σ m w a e) {K : Env → List Blk → Prop} (hk : aT P t e m K)
    (hq : ∀ a' w', Goes n X σ m w K a' w' → Q .normal a' w') : (Code.region id ops draw).wp P Q a w := by
  unfold compRegionT at hc
  cases draw with
  | false => simp at hc
  | true =>
    simp only [if_true] at hc
    split at hc
    · rename_i hm
      simp only [Bool.and_eq_true] at hm
      have hsame : Same w { w with drawn := w.drawn + 1 } := ⟨rfl, rfl, rfl, rfl⟩
      have g := (hsame.tr (n := m.length)).chg r.mem
      refine wp_region_any hm.1 (wpAny_of_G _ _ _ _ (drawT_sound hm.2 hQ _ _ t hc (σ := σ) (m := m) (e := e) ⟨⟨fun t => (r.env t).mono g, hsame.mem r.mem⟩, r.size, r.defers⟩ hk ?_))
      exact fun a' w' ⟨σ', m', e', q1, q2, q3, q4⟩ => hq _ _ ⟨σ', m', e', q1, q2, (hsame.tr (n := m.length)).trans q3 (Nat.le_refl _), q4⟩
    · cases hc

def compRegion (P : Program) (n : Nat) (ops : Array Oper) (draw : Bool) : Option (List CI) :=
  if draw then if P.follows .mixedOrders && Region.noSelect ops then compDraw P n ops ops.size (Array.replicate ops.size false) else none
  else compSeq P n ops (List.range ops.size)

theorem region_sound {id : Nat} {draw : Bool} {cl : List CI} (hc : compRegion P n ops draw = some cl) (hQ : ∀ c a w, ¬ Q (.panic c) a w) (r : Rl n X σ m w a e) {K : Env → List Blk → Prop} (hk : aIs P cl e m K)
    (hq : ∀ a' w', Goes n X σ m w K a' w' → Q .normal a' w') : (Code.region id ops draw).wp P Q a w := by
  unfold compRegion at hc
  cases draw with
  | false => exact wp_region (seq_sound _ cl (by simpa using hc) r hk hq)
  | true =>
    simp only [if_true] at hc
    split at hc
    · rename_i hm
      simp only [Bool.and_eq_true] at hm
      have hsame : Same w { w with drawn := w.drawn + 1 } := ⟨rfl, rfl, rfl, rfl⟩
      have g := (hsame.tr (n := m.length)).chg r.mem
      refine wp_region_any hm.1 (wpAny_of_G _ _ _ _ (draw_sound hm.2 hQ _ _ cl hc (σ := σ) (m := m) (e := e) ⟨⟨fun t => (r.env t).mono g, hsame.mem r.mem⟩, r.size, r.defers⟩ hk ?_))
      exact fun a' w' ⟨σ', m', e', q1, q2, q3, q4⟩ => hq _ _ ⟨σ', m', e', q1, q2, (hsame.tr (n := m.length)).trans q3 (Nat.le_refl _), q4⟩
    · cases hc

end
end Go.Proofs.YtneiicadhjdbiaaGreat.Ab

namespace Go.Proofs.YtneiicadhjdbiaaGreat.Ab
open Go

inductive CC where
  | skip
  | ops (l : List CI)
  | keep (ts : List Nat) (l : List CI)
  | wk (l : List CI)
  | seq (a b : CC)
  | cond (c : Opd) (a b : CC)
  | block (id : Nat) (b : CC)
  | loop (b : CC)
  | exit (id : Nat)
  | ret
  | alt (t : CT)
  | bad

inductive Ex where
  | normal
  | exit (id : Nat)
  | ret

def Ex.to : Ex → Exit
  | .normal => .normal
  | .exit id => .exit id
  | .ret => .ret

abbrev Qt := Ex → Env → List Blk → Prop

def exThen (next : Env → List Blk → Prop) (Q : Qt) : Qt
  | .normal, e, m => next e m
  | .exit id, e, m => Q (.exit id) e m
  | .ret, e, m => Q .ret e m

def exBlock (id : Nat) (Q : Qt) : Qt
  | .normal, e, m => Q .normal e m
  | .exit id', e, m => if id' = id then Q .normal e m else Q (.exit id') e m
  | .ret, e, m => Q .ret e m

def keepE (ts : List Nat) (e : Env) : Env := ts.map fun t => (t, get e t)

/-- The same state of the machine, seen with less: names below n0 keep their meaning. -/
def Wk (n0 : Nat) (e : Env) (m : List Blk) (e' : Env) (m' : List Blk) : Prop :=
  ∀ (n : Nat) (X : Nat → Prop) (σ : Sg) (w : World) (a : Act), Rl n X σ m w a e → ∃ σ', Rl n X σ' m' w a e' ∧ Tr n0 σ m w σ' m' w ∧ n0 ≤ m'.length

def aw (P : Program) (n0 : Nat) : CC → Qt → Env → List Blk → Prop
  | .skip, Q, e, m => Q .normal e m
  | .ops l, Q, e, m => aIs P l e m (Q .normal)
  | .keep ts l, Q, e, m => aIs P l e m fun e' m' => Q .normal (keepE ts e') m'
  | .wk l, Q, e, m => aIs P l e m fun e' m' => ∃ e'' m'', Wk n0 e' m' e'' m'' ∧ Q .normal e'' m''
  | .seq a b, Q, e, m => aw P n0 a (exThen (aw P n0 b Q) Q) e m
  | .cond c a b, Q, e, m => match ev e c with
    | .t (.c (.v (.bool t))) => (t = true → aw P n0 a Q e m) ∧ (t = false → aw P n0 b Q e m)
    | _ => False
  | .block id b, Q, e, m => aw P n0 b (exBlock id Q) e m
  | .loop b, Q, e, m => ∃ I : Nat → Env → List Blk → Prop, (∃ k e' m', Wk n0 e m e' m' ∧ I k e' m') ∧ ∀ k e m, I k e m → aw P n0 b (exThen (fun e' m' => ∃ j e'' m'', j < k ∧ Wk n0 e' m' e'' m'' ∧ I j e'' m'') Q) e m
  | .exit id, Q, e, m => Q (.exit id) e m
  | .ret, Q, e, m => Q .ret e m
  | .alt t, Q, e, m => aT P t e m fun e' m' => ∃ e'' m'', Wk n0 e' m' e'' m'' ∧ Q .normal e'' m''
  | .bad, _, _, _ => False

abbrev Hints := List (Nat × List Nat)
def hint : Hints → Nat → Option (List Nat)
  | [], _ => none
  | (k, ts) :: r, i => if i = k then some ts else hint r i

def comp (P : Program) (n : Nat) (h : Hints) : Code → Option CC
  | .skip => some .skip
  | .label _ => some .skip
  | .region id ops draw => match compRegion P n ops draw, hint h id with
    | some l, some ts => if ts = [1000000] then some (.wk l) else some (.keep ts l)
    | some l, none => some (.ops l)
    | none, _ => match compRegionT P n ops draw with
      | some t => some (.alt t)
      | none => some .bad
  | .seq a b => match comp P n h a, comp P n h b with
    | some x, some y => some (.seq x y)
    | _, _ => none
  | .cond c a b => match copd c, comp P n h a, comp P n h b with
    | some c, some x, some y => some (.cond c x y)
    | _, _, _ => none
  | .block id b => match comp P n h b with
    | some x => some (.block id x)
    | none => none
  | .loop b => match comp P n h b with
    | some x => some (.loop x)
    | none => none
  | .exit id => some (.exit id)
  | .ret => some .ret
  | _ => none

section
variable {P : Program} {n n0 : Nat} {h : Hints} {X : Nat → Prop}

theorem keepE_get : ∀ (ts : List Nat) (e : Env) (t : Nat), get (keepE ts e) t = get e t ∨ get (keepE ts e) t = .any
  | [], e, t => .inr rfl
  | k :: r, e, t => by
    simp only [keepE, List.map_cons, get]
    by_cases hk : t = k
    · subst hk; rw [if_pos rfl]; exact .inl rfl
    · rw [if_neg hk]; exact keepE_get r e t

theorem rl_less {σ : Sg} {m : List Blk} {w : World} {a : Act} {e e' : Env} (r : Rl n X σ m w a e) (he : ∀ t, get e' t = get e t ∨ get e' t = .any) : Rl n X σ m w a e' :=
  ⟨⟨fun t => by rcases he t with h | h <;> rw [h]; exact r.env t; trivial, r.mem⟩, r.size, r.defers⟩

/-- What code leaves behind, seen from the state (σ, m, w). -/
def Ends (n n0 : Nat) (X : Nat → Prop) (σ : Sg) (m : List Blk) (w : World) (K : Env → List Blk → Prop) (a' : Act) (w' : World) : Prop :=
  ∃ σ' m' e', K e' m' ∧ Rl n X σ' m' w' a' e' ∧ Tr n0 σ m w σ' m' w' ∧ n0 ≤ m'.length

theorem aw_sound : ∀ (c : Code) (cc : CC), comp P n h c = some cc → ∀ {σ : Sg} {m : List Blk} {w : World} {a : Act} {e : Env} {K : Qt} {Q : Exit → Act → World → Prop}, Rl n X σ m w a e → n0 ≤ m.length → aw P n0 cc K e m →
    (∀ c a w, ¬ Q (.panic c) a w) → (∀ ex a' w', Ends n n0 X σ m w (K ex) a' w' → Q ex.to a' w') → c.wp P Q a w
  | .skip, cc, hc, σ, m, w, a, e, K, Q, r, hn, hk, hp, hq => by
    cases hc
    exact wp_skip (hq .normal _ _ ⟨σ, m, e, hk, r, Tr.refl _ _ _ _, hn⟩)
  | .label l, cc, hc, σ, m, w, a, e, K, Q, r, hn, hk, hp, hq => by
    cases hc
    exact wp_label (hq .normal _ _ ⟨σ, m, e, hk, r, Tr.refl _ _ _ _, hn⟩)
  | .region id ops draw, cc, hc, σ, m, w, a, e, K, Q, r, hn, hk, hp, hq => by
    simp only [comp] at hc
    split at hc
    · rename_i l ts hl _
      split at hc
      · cases hc
        refine region_sound hl hp r hk fun a' w' ⟨σ', m', e', ⟨e'', m'', p1, p2⟩, q2, q3, _⟩ => ?_
        obtain ⟨σ'', s1, s2, s3⟩ := p1 n X σ' w' a' q2
        exact hq .normal _ _ ⟨σ'', m'', e'', p2, s1, (q3.mono hn).trans s2 (Nat.le_refl _), s3⟩
      · cases hc
        refine region_sound hl hp r hk fun a' w' ⟨σ', m', e', q1, q2, q3, q4⟩ => hq .normal _ _ ⟨σ', m', _, q1, rl_less q2 (keepE_get ts e'), q3.mono hn, Nat.le_trans hn q4⟩
    · rename_i l hl _
      cases hc
      exact region_sound hl hp r hk fun a' w' ⟨σ', m', e', q1, q2, q3, q4⟩ => hq .normal _ _ ⟨σ', m', _, q1, q2, q3.mono hn, Nat.le_trans hn q4⟩
    · split at hc
      · rename_i t ht
        cases hc
        refine regionT_sound ht hp r hk fun a' w' ⟨σ', m', e', ⟨e'', m'', p1, p2⟩, q2, q3, _⟩ => ?_
        obtain ⟨σ'', s1, s2, s3⟩ := p1 n X σ' w' a' q2
        exact hq .normal _ _ ⟨σ'', m'', e'', p2, s1, (q3.mono hn).trans s2 (Nat.le_refl _), s3⟩
      · cases hc
        exact hk.elim
  | .seq x y, cc, hc, σ, m, w, a, e, K, Q, r, hn, hk, hp, hq => by
    simp only [comp] at hc
    split at hc
    · rename_i x' y' hx hy
      cases hc
      refine wp_seq (aw_sound x x' hx r hn hk (fun c a w => hp c a w) fun ex a' w' he => ?_)
      obtain ⟨σ', m', e', q1, q2, q3, q4⟩ := he
      cases ex with
      | normal =>
        refine aw_sound y y' hy q2 q4 q1 hp fun ex' a'' w'' ⟨σ'', m'', e'', p1, p2, p3, p4⟩ => hq ex' _ _ ⟨σ'', m'', e'', p1, p2, q3.trans p3 (Nat.le_refl _), p4⟩
      | exit id => exact hq (.exit id) _ _ ⟨σ', m', e', q1, q2, q3, q4⟩
      | ret => exact hq .ret _ _ ⟨σ', m', e', q1, q2, q3, q4⟩
    · cases hc
  | .cond c x y, cc, hc, σ, m, w, a, e, K, Q, r, hn, hk, hp, hq => by
    simp only [comp] at hc
    split at hc
    · rename_i c' x' y' hcc hx hy
      cases hc
      have h0 := opd_rep r.toSt hcc
      simp only [aw] at hk
      split at hk
      · rename_i t ht
        rw [ht] at h0
        exact wp_cond_split (repD_bool h0) (fun h => aw_sound x x' hx r hn (hk.1 h) hp hq) (fun h => aw_sound y y' hy r hn (hk.2 h) hp hq)
      · exact hk.elim
    · cases hc
  | .block id b, cc, hc, σ, m, w, a, e, K, Q, r, hn, hk, hp, hq => by
    simp only [comp] at hc
    split at hc
    · rename_i x hx
      cases hc
      refine wp_block (aw_sound b x hx r hn hk (fun c a w => hp c a w) fun ex a' w' ⟨σ', m', e', q1, q2, q3, q4⟩ => ?_)
      cases ex with
      | normal => exact hq .normal _ _ ⟨σ', m', e', q1, q2, q3, q4⟩
      | exit id' =>
        simp only [exBlock] at q1
        simp only [Ex.to, Exit.inBlock]
        split at q1
        · rename_i hid; rw [if_pos hid]; exact hq .normal _ _ ⟨σ', m', e', q1, q2, q3, q4⟩
        · rename_i hid; rw [if_neg hid]; exact hq (.exit id') _ _ ⟨σ', m', e', q1, q2, q3, q4⟩
      | ret => exact hq .ret _ _ ⟨σ', m', e', q1, q2, q3, q4⟩
    · cases hc
  | .loop b, cc, hc, σ, m, w, a, e, K, Q, r, hn, hk, hp, hq => by
    simp only [comp] at hc
    split at hc
    · rename_i x hx
      cases hc
      obtain ⟨I, ⟨k0, e0, m0, hwk, hI0⟩, round⟩ := hk
      obtain ⟨σ0, r0, tr0, hn0⟩ := hwk n X σ w a r
      refine wp_loop_ghost (fun k a' w' => ∃ σ' m' e', I k e' m' ∧ Rl n X σ' m' w' a' e' ∧ Tr n0 σ m w σ' m' w' ∧ n0 ≤ m'.length) k0 ⟨σ0, m0, e0, hI0, r0, tr0, hn0⟩ ?_
      rintro k a1 w1 ⟨σ1, m1, e1, hI1, r1, tr1, hn1⟩
      refine aw_sound b x hx r1 hn1 (round k e1 m1 hI1) (fun c a w => hp c a w) fun ex a' w' ⟨σ', m', e', q1, q2, q3, q4⟩ => ?_
      cases ex with
      | normal =>
        obtain ⟨j, e2, m2, hj, hwk2, hI2⟩ := q1
        obtain ⟨σ2, r2, tr2, hn2⟩ := hwk2 n X σ' w' a' q2
        exact ⟨j, hj, σ2, m2, e2, hI2, r2, (tr1.trans q3 (Nat.le_refl _)).trans tr2 (Nat.le_refl _), hn2⟩
      | exit id => exact hq (.exit id) _ _ ⟨σ', m', e', q1, q2, tr1.trans q3 (Nat.le_refl _), q4⟩
      | ret => exact hq .ret _ _ ⟨σ', m', e', q1, q2, tr1.trans q3 (Nat.le_refl _), q4⟩
    · cases hc
  | .exit id, cc, hc, σ, m, w, a, e, K, Q, r, hn, hk, hp, hq => by
    cases hc
    exact wp_exit (hq (.exit id) _ _ ⟨σ, m, e, hk, r, Tr.refl _ _ _ _, hn⟩)
  | .ret, cc, hc, σ, m, w, a, e, K, Q, r, hn, hk, hp, hq => by
    cases hc
    exact wp_ret (hq .ret _ _ ⟨σ, m, e, hk, r, Tr.refl _ _ _ _, hn⟩)
  | .rangeFunc .., _, hc, _, _, _, _, _, _, _, _, _, _, _, _ => by cases hc
  | .scope _, _, hc, _, _, _, _, _, _, _, _, _, _, _, _ => by cases hc
  | .goto _, _, hc, _, _, _, _, _, _, _, _, _, _, _, _ => by cases hc
  | .refuse _, _, hc, _, _, _, _, _, _, _, _, _, _, _, _ => by cases hc

end
end Go.Proofs.YtneiicadhjdbiaaGreat.Ab

namespace Go.Proofs.YtneiicadhjdbiaaGreat.Ab
open Go

inductive CR where
  | t (n : Nat)
  | cl (k : Nat) (s : Nat)
  | cl1 (s : Nat)

def resT (e : Env) (m : List Blk) : CR → Option T
  | .t n => match get e n with
    | .t x => some x
    | _ => none
  | .cl k s => match get e s with
    | .t (.c (.ptr id off)) => (rdm m id off k).map .agg
    | _ => none
  | .cl1 s => match get e s with
    | .t (.c (.ptr id off)) => match rdm m id off 1 with
      | some [c] => some (.c c)
      | _ => none
    | _ => none

def resTs (e : Env) (m : List Blk) : List CR → Option (List T)
  | [] => some []
  | r :: l => match resT e m r, resTs e m l with
    | some x, some xs => some (x :: xs)
    | _, _ => none

def resD (e : Env) (m : List Blk) (l : List CR) : Option D :=
  match resTs e m l with
  | some [x] => some (.t x)
  | some xs => some (.tup xs)
  | none => none

def compR (P : Program) : List ResultVar → Option (List CR)
  | [] => some []
  | .tmp t :: r => (compR P r).map (CR.t t :: ·)
  | .cell s t :: r => if isStruct P t then match P.info? t, compR P r with
      | some i, some l => some (.cl i.size s :: l)
      | _, _ => none
    else if (P.underlying t).isSome then (compR P r).map (CR.cl1 s :: ·) else none

/-- A result and its memory, seen with less. -/
def WkD (n0 : Nat) (d : D) (m : List Blk) (d' : D) (m' : List Blk) : Prop :=
  ∀ (X : Nat → Prop) (σ : Sg) (w : World) (v : Value), MemOk X σ m w → RepD σ (Lv X σ m) w v d → ∃ σ', RepD σ' (Lv X σ' m') w v d' ∧ MemOk X σ' m' w ∧ Tr n0 σ m w σ' m' w ∧ n0 ≤ m'.length

def argE : List D → Nat → Env
  | [], _ => []
  | d :: r, k => (k, d) :: argE r (k + 1)

/-- The end of a function's body. -/
def fin (n0 : Nat) (rs : List CR) (Q : D → List Blk → Prop) : Qt
  | .exit _, _, _ => False
  | .normal, e, m => ∃ d, resD e m rs = some d ∧ ∃ d' m', WkD n0 d m d' m' ∧ Q d' m'
  | .ret, e, m => ∃ d, resD e m rs = some d ∧ ∃ d' m', WkD n0 d m d' m' ∧ Q d' m'

def compFn (P : Program) (h : Hints) (f : Nat) : Option (CC × List CR × Nat) :=
  match P.funcs[f]? with
  | some fn => match fn.body with
    | some c => match comp P fn.ntmps h c, compR P fn.results.toList with
      | some cc, some rs => some (cc, rs, fn.ntmps)
      | _, _ => none
    | none => none
  | none => none

section
variable {P : Program}

def resV (tmps : Array Value) : ResultVar → Sem Value
  | .tmp t => pure (tmps.getD t undef)
  | .cell q t => do loadVar t (← asAddr (tmps.getD q undef))

theorem results_eq (fn : Func) (tmps : Array Value) : results fn tmps = (do let vs ← fn.results.mapM (resV tmps); pure (if h : vs.size = 1 then vs[0] else .tuple vs)) := by
  have : resV tmps = (fun | .tmp t => pure (tmps.getD t undef) | .cell a t => do loadVar t (← asAddr (tmps.getD a undef))) := by
    funext r; cases r <;> rfl
  rw [this]; rfl

theorem argE_get : ∀ (ds : List D) (k t : Nat), get (argE ds k) t = if k ≤ t ∧ t < k + ds.length then ds.getD (t - k) .any else .any
  | [], k, t => by simp only [argE, get, List.length_nil]; rw [if_neg (by omega)]
  | d :: r, k, t => by
    simp only [argE, get, List.length_cons]
    by_cases h : t = k
    · subst h; rw [if_pos rfl, if_pos (by omega)]; simp
    · rw [if_neg h, argE_get r (k + 1) t]
      by_cases h2 : k + 1 ≤ t ∧ t < k + 1 + r.length
      · rw [if_pos h2, if_pos (by omega), show t - k = (t - (k + 1)) + 1 from by omega]; rfl
      · rw [if_neg h2, if_neg (by omega)]

theorem res_sound {σ : Sg} {m : List Blk} {w : World} {a : Act} {e : Env} {X : Nat → Prop} (s : St X σ m w a e) : ∀ (l : List ResultVar) (rs : List CR) (xs : List T), compR P l = some rs → resTs e m rs = some xs →
    ∃ vs : List Value, (l.mapM (resV a.tmps)).run P w = .ok vs w ∧ vs.length = xs.length ∧ ∀ (i : Nat) (x : T), xs[i]? = some x → ∃ u, vs[i]? = some u ∧ RepT σ (Lv X σ m) w u x := by
  intro l
  induction l with
  | nil =>
    intro rs xs hc hr
    simp only [compR] at hc
    cases hc
    simp only [resTs] at hr
    cases hr
    exact ⟨[], by simp, rfl, fun i x hx => by simp at hx⟩
  | cons q r ih =>
    intro rs xs hc hr
    have step : ∀ (c : CR) (rs' : List CR) (x : T) (u : Value), compR P r = some rs' → resTs e m (c :: rs') = some xs → resT e m c = some x → RepT σ (Lv X σ m) w u x →
        (resV a.tmps q).run P w = .ok u w →
        ∃ vs : List Value, ((q :: r).mapM (resV a.tmps)).run P w = .ok vs w ∧ vs.length = xs.length ∧ ∀ (i : Nat) (x : T), xs[i]? = some x → ∃ u, vs[i]? = some u ∧ RepT σ (Lv X σ m) w u x := by
      intro c rs' x u h1 h2 h3 h4 h5
      simp only [resTs, h3] at h2
      split at h2
      · rename_i x' xs' hx' hxs'
        cases hx'
        cases h2
        obtain ⟨vs, k1, k2, k3⟩ := ih rs' xs' h1 hxs'
        refine ⟨u :: vs, ?_, by simp [k2], fun i y hy => ?_⟩
        · rw [List.mapM_cons, Sem.run_bind]
          rw [h5, Result.andThen_ok, Sem.run_bind, k1]; rfl
        · cases i with
          | zero => simp at hy; subst hy; exact ⟨u, rfl, h4⟩
          | succ i => simp at hy; simpa using k3 i y hy
      · cases h2
    cases q with
    | tmp t =>
      simp only [compR, Option.map_eq_some_iff] at hc
      obtain ⟨rs', h1, rfl⟩ := hc
      cases hx : resT e m (.t t) with
      | none => simp [resTs, hx] at hr
      | some x =>
        have hget : get e t = .t x := by
          simp only [resT] at hx
          split at hx
          · rename_i heq; cases hx; exact heq
          · cases hx
        refine step (.t t) rs' x (a.tmps.getD t undef) h1 hr hx ?_ rfl
        have := s.env t
        rw [hget] at this
        exact this
    | cell sl t =>
      simp only [compR] at hc
      split at hc
      · rename_i hst
        split at hc
        · rename_i i rs' hi h1
          cases hc
          cases hx : resT e m (.cl i.size sl) with
          | none => simp [resTs, hx] at hr
          | some x =>
            simp only [resT] at hx
            split at hx
            · rename_i id off hev
              simp only [Option.map_eq_some_iff] at hx
              obtain ⟨cs, hcs, rfl⟩ := hx
              have h0 := s.env sl
              rw [hev] at h0
              obtain ⟨b, N, hs, hv⟩ := h0
              obtain ⟨vs, q1, q2, q3⟩ := own_cells s.mem hs hcs
              refine step (.cl i.size sl) rs' (.agg cs) (.agg vs.toArray) h1 hr (by simp [resT, hev, hcs]) ⟨vs, rfl, q2⟩ ?_
              simp only [resV, hv, asAddr, pure_bind]
              exact run_loadVar_agg hst hi q1 q3
            · cases hx
        · cases hc
      · rename_i hst
        split at hc
        · rename_i hsome
          simp only [Option.map_eq_some_iff] at hc
          obtain ⟨rs', h1, rfl⟩ := hc
          cases hx : resT e m (.cl1 sl) with
          | none => simp [resTs, hx] at hr
          | some x =>
            have hx0 := hx
            simp only [resT] at hx
            split at hx
            · rename_i id off hev
              split at hx
              · rename_i c hcs
                cases hx
                have h0 := s.env sl
                rw [hev] at h0
                obtain ⟨b, N, hs, hv⟩ := h0
                obtain ⟨vs, q1, q2, q3⟩ := own_cells s.mem hs hcs
                obtain ⟨u, r1, r2⟩ := q2.2 0 c rfl
                obtain ⟨d, hd⟩ := Option.isSome_iff_exists.mp hsome
                have h2 : (match d with | .struct _ => true | .array _ _ => true | _ => false) = false := by
                  unfold isStruct at hst; rw [hd] at hst; cases d <;> simp at hst <;> rfl
                refine step (.cl1 sl) rs' (.c c) u h1 hr hx0 r2 ?_
                simp only [resV, hv, asAddr, pure_bind]
                exact run_loadVar_one hd h2 (by have := q3 0 u r1; simpa using this)
              · cases hx
            · cases hx
        · cases hc

theorem AFun.intro {h : Hints} {f : Nat} {cc : CC} {rs : List CR} {n : Nat} (hf : compFn P h f = some (cc, rs, n)) {ds : List D} {mem : List Blk} {Q : D → List Blk → Prop} (hn : ds.length ≤ n)
    (hk : aw P mem.length cc (fin mem.length rs Q) (argE ds 0) mem) : AFun P f ds mem Q := by
  unfold compFn at hf
  split at hf
  · rename_i fn hfn
    split at hf
    · rename_i c hb
      split at hf
      · rename_i cc' rs' hcc hrs
        cases hf
        intro X σ w vs hm hr
        refine calls_of_wp hfn hb ?_
        refine aw_sound c cc hcc (X := X) (σ := σ) (m := mem) (e := argE ds 0) ⟨⟨fun t => ?_, hm⟩, ?_, rfl⟩ (Nat.le_refl _) hk ?_ ?_
        · rw [argE_get]
          by_cases ht : 0 ≤ t ∧ t < 0 + ds.length
          · rw [if_pos ht]
            have hlt : t < ds.length := by omega
            obtain ⟨u, k1, k2⟩ := hr.2 t ds[t] (List.getElem?_eq_getElem hlt)
            have e1 : ds.getD (t - 0) .any = ds[t] := by simp [hlt]
            have e2 : (vs.toArray ++ Array.replicate (fn.ntmps - vs.toArray.size) undef).getD t undef = u := by
              have hvl : t < vs.length := by rw [hr.1]; exact hlt
              have : vs[t] = u := by rw [List.getElem?_eq_getElem hvl] at k1; exact Option.some.inj k1
              simp [Array.getElem?_append, hvl, this]
            rw [e1, e2]; exact k2
          · rw [if_neg ht]; trivial
        · have := hr.1; simp; omega
        · rintro c a w ⟨_, v, d, m', σ', hv, _⟩; cases hv
        · rintro ex a' w' ⟨σ', m', e', q1, q2, q3, q4⟩
          have main : (∃ d, resD e' m' rs = some d ∧ ∃ d' m'', WkD mem.length d m' d' m'' ∧ Q d' m'') → a'.defers = [] ∧ ∃ v, (results fn a'.tmps).run P w' = .ok v w' ∧ Post X σ mem w Q (.returned v) w' := by
            rintro ⟨d, hd, d', m'', hwk, hQ⟩
            refine ⟨q2.defers, ?_⟩
            unfold resD at hd
            cases hxs : resTs e' m' rs with
            | none => simp [hxs] at hd
            | some xs =>
              obtain ⟨us, r1, r2, r3⟩ := res_sound q2.toSt fn.results.toList rs xs hrs hxs
              have hrun : (results fn a'.tmps).run P w' = .ok (if h : us.toArray.size = 1 then us.toArray[0] else .tuple us.toArray) w' := by
                rw [results_eq]
                have hm : (fn.results.mapM (resV a'.tmps)).run P w' = .ok us.toArray w' := by
                  conv => lhs; rw [← Array.toArray_toList (xs := fn.results)]
                  rw [List.mapM_toArray, Sem.run_map, r1]; rfl
                rw [Sem.run_bind, hm]; rfl
              have hrep : RepD σ' (Lv X σ' m') w' (if h : us.toArray.size = 1 then us.toArray[0] else .tuple us.toArray) d := by
                rw [hxs] at hd
                cases xs with
                | nil =>
                  cases hd
                  rw [dif_neg (by simp [r2])]; exact ⟨us, rfl, r2, r3⟩
                | cons x r =>
                  cases r with
                  | nil =>
                    cases hd
                    obtain ⟨u, k1, k2⟩ := r3 0 x rfl
                    have hlen : us.length = 1 := r2
                    have h0 : 0 < us.length := by omega
                    rw [List.getElem?_eq_getElem h0] at k1
                    have k1 := Option.some.inj k1
                    rw [dif_pos (by simpa using hlen)]
                    simp only [List.getElem_toArray, k1]
                    exact k2
                  | cons y r' =>
                    cases hd
                    rw [dif_neg (by simp [r2])]; exact ⟨us, rfl, r2, r3⟩
              obtain ⟨σ'', p1, p2, p3, p4⟩ := hwk X σ' w' _ q2.mem hrep
              exact ⟨_, hrun, _, d', m'', σ'', rfl, hQ, p1, p2, q3.trans p3 (Nat.le_refl _), p4⟩
          cases ex with
          | normal => exact main q1
          | exit id => exact q1.elim
          | ret => exact main q1
      · cases hf
    · cases hf
  · cases hf

end
end Go.Proofs.YtneiicadhjdbiaaGreat.Ab

namespace Go.Proofs.YtneiicadhjdbiaaGreat.Ab
open Go

def C.lt (k : Nat) : C → Prop
  | .sl _ id _ _ => id < k
  | .ptr id _ => id < k
  | .fn _ caps => ∀ p ∈ caps, p.1 < k
  | _ => True

def Cs.lt (k : Nat) : List C → Prop
  | [] => True
  | x :: r => x.lt k ∧ Cs.lt k r

def T.lt (k : Nat) : T → Prop
  | .c x => x.lt k
  | .agg cs => Cs.lt k cs

def Ts.lt (k : Nat) : List T → Prop
  | [] => True
  | x :: r => x.lt k ∧ Ts.lt k r

def D.lt (k : Nat) : D → Prop
  | .t x => x.lt k
  | .tup xs => Ts.lt k xs
  | _ => True

/-- Every name in memory is below its length. -/
def WfM (m : List Blk) : Prop := ∀ (id : Nat) (cs : List C), m[id]? = some (Blk.cells cs) → Cs.lt m.length cs

theorem Cs.lt_iff {k : Nat} : ∀ {cs : List C}, Cs.lt k cs ↔ ∀ x ∈ cs, x.lt k
  | [] => by simp [Cs.lt]
  | x :: r => by simp [Cs.lt, Cs.lt_iff (cs := r)]

theorem Ts.lt_iff {k : Nat} : ∀ {cs : List T}, Ts.lt k cs ↔ ∀ x ∈ cs, x.lt k
  | [] => by simp [Ts.lt]
  | x :: r => by simp [Ts.lt, Ts.lt_iff (cs := r)]

theorem WfM.nil : WfM [] := fun id cs h => by simp at h

section
variable {P : Program} {X : Nat → Prop} {σ : Sg} {m : List Blk} {w : World}

/-! ### renaming -/
def renC (ρ : Nat → Nat) : C → C
  | .sl sz id off len => .sl sz (ρ id) off len
  | .ptr id off => .ptr (ρ id) off
  | .fn f caps => .fn f (caps.map fun p => (ρ p.1, p.2))
  | x => x

/-- x is x' under other names; or x' knows nothing. -/
def LeC (ρ : Nat → Nat) (x' x : C) : Prop := x' = .any ∨ renC ρ x' = x

def LeCs (ρ : Nat → Nat) : List C → List C → Prop
  | [], _ => True
  | x' :: r', x :: r => LeC ρ x' x ∧ LeCs ρ r' r
  | _ :: _, [] => False

def LeT (ρ : Nat → Nat) : T → T → Prop
  | .c x', .c x => LeC ρ x' x
  | .agg a, .agg b => a.length = b.length ∧ LeCs ρ a b
  | _, _ => False

def LeTs (ρ : Nat → Nat) : List T → List T → Prop
  | [], [] => True
  | x' :: r', x :: r => LeT ρ x' x ∧ LeTs ρ r' r
  | _, _ => False

def LeD (ρ : Nat → Nat) : D → D → Prop
  | .any, _ => True
  | .und, .und => True
  | .t x', .t x => LeT ρ x' x
  | .tup a, .tup b => LeTs ρ a b
  | _, _ => False

def LeB (ρ : Nat → Nat) (k : Nat) : Blk → Blk → Prop
  | .hole, _ => True
  | .cells a, .cells b => Cs.lt k a ∧ LeCs ρ a b
  | _, _ => False

theorem leCs_get {ρ : Nat → Nat} : ∀ {a b : List C} {j : Nat} {x' : C}, LeCs ρ a b → a[j]? = some x' → ∃ x, b[j]? = some x ∧ LeC ρ x' x
  | x' :: r', x :: r, 0, y, h, hj => by simp at hj; subst hj; exact ⟨x, rfl, h.1⟩
  | x' :: r', x :: r, j + 1, y, h, hj => by simp at hj; obtain ⟨z, h1, h2⟩ := leCs_get h.2 hj; exact ⟨z, by simpa using h1, h2⟩
  | [], _, _, _, _, hj => by simp at hj
  | _ :: _, [], _, _, h, _ => h.elim

theorem leCs_len {ρ : Nat → Nat} : ∀ {a b : List C}, LeCs ρ a b → a.length ≤ b.length
  | [], _, _ => by simp
  | x' :: r', x :: r, h => by have := leCs_len h.2; simp; omega
  | _ :: _, [], h => h.elim

def cutS (σ : Sg) (ρ : Nat → Nat) (k : Nat) : Sg := fun id => if id < k then σ (ρ id) else none

variable {ρ : Nat → Nat} {k : Nat}

theorem rep_le {L L' : Nat → Prop} (hL : ∀ b, L' b → L b) {v : Value} {x x' : C} (h : RepC σ L w v x) (hle : LeC ρ x' x) (hlt : x'.lt k) : RepC (cutS σ ρ k) L' w v x' := by
  have hV : ∀ {u : Value} {y : V}, RepV L w u y → RepV L' w u y := fun h => RepV.mono (Nat.le_refl _) (fun b _ hb => ⟨fun h => hb (hL b h), rfl⟩) h
  rcases hle with rfl | rfl
  · exact RepC.one h
  · cases x' with
    | v y => exact hV h
    | nil => exact h
    | sl sz id off len =>
      have e : cutS σ ρ k id = σ (ρ id) := if_pos hlt
      show (cutS σ ρ k id ≠ none ∧ _) ∨ _
      rw [e]; exact h
    | ptr id off =>
      have e : cutS σ ρ k id = σ (ρ id) := if_pos hlt
      show ∃ b N, cutS σ ρ k id = _ ∧ _
      rw [e]; exact h
    | rptr cs =>
      obtain ⟨b, off, val, h1, h2, h3, h4⟩ := h
      exact ⟨b, off, val, h1, h2, fun h => h3 (hL b h), fun j x hj => ⟨(h4 j x hj).1, hV (h4 j x hj).2⟩⟩
    | nptr => exact h
    | fn f caps =>
      obtain ⟨vs, h1, h2, h3⟩ := h
      refine ⟨vs, h1, by simpa using h2, fun i p hp => ?_⟩
      obtain ⟨b, N, q1, q2⟩ := h3 i (ρ p.1, p.2) (by simp [hp])
      refine ⟨b, N, ?_, q2⟩
      have e : cutS σ ρ k p.1 = σ (ρ p.1) := if_pos (hlt p (List.mem_of_getElem? hp))
      rw [e]; exact q1
    | any => exact h

theorem repT_le {L L' : Nat → Prop} (hL : ∀ b, L' b → L b) {v : Value} {x x' : T} (h : RepT σ L w v x) (hle : LeT ρ x' x) (hlt : x'.lt k) : RepT (cutS σ ρ k) L' w v x' := by
  cases x' with
  | c x' => cases x with
    | c x => exact rep_le hL h hle hlt
    | agg b => exact hle.elim
  | agg a => cases x with
    | c x => exact hle.elim
    | agg b =>
      obtain ⟨vs, h1, h2, h3⟩ := h
      refine ⟨vs, h1, by rw [h2]; exact hle.1.symm, fun i y hy => ?_⟩
      obtain ⟨z, q1, q2⟩ := leCs_get hle.2 hy
      obtain ⟨u, r1, r2⟩ := h3 i z q1
      exact ⟨u, r1, rep_le hL r2 q2 (Cs.lt_iff.1 hlt y (List.mem_of_getElem? hy))⟩

theorem leTs_get : ∀ {a b : List T}, LeTs ρ a b → a.length = b.length ∧ ∀ {j : Nat} {x' : T}, a[j]? = some x' → ∃ x, b[j]? = some x ∧ LeT ρ x' x
  | [], [], _ => ⟨rfl, fun hj => by simp at hj⟩
  | x' :: r', x :: r, h => ⟨by simp [(leTs_get h.2).1], fun {j y} hj => by
      cases j with
      | zero => simp at hj; subst hj; exact ⟨x, rfl, h.1⟩
      | succ j => simp at hj; obtain ⟨z, h1, h2⟩ := (leTs_get h.2).2 hj; exact ⟨z, by simpa using h1, h2⟩⟩
  | [], _ :: _, h => h.elim
  | _ :: _, [], h => h.elim

theorem repD_le {L L' : Nat → Prop} (hL : ∀ b, L' b → L b) {v : Value} {x x' : D} (h : RepD σ L w v x) (hle : LeD ρ x' x) (hlt : x'.lt k) : RepD (cutS σ ρ k) L' w v x' := by
  cases x' with
  | any => trivial
  | und => cases x <;> first | exact h | exact hle.elim
  | t x' => cases x with
    | t x => exact repT_le hL h hle hlt
    | tup xs => exact hle.elim
    | und => exact hle.elim
    | any => exact hle.elim
  | tup a => cases x with
    | tup b =>
      obtain ⟨vs, h1, h2, h3⟩ := h
      obtain ⟨q1, q2⟩ := leTs_get hle
      refine ⟨vs, h1, by rw [h2, q1], fun i y hy => ?_⟩
      obtain ⟨z, r1, r2⟩ := q2 hy
      obtain ⟨u, p1, p2⟩ := h3 i z r1
      exact ⟨u, p1, repT_le hL p2 r2 (Ts.lt_iff.1 hlt y (List.mem_of_getElem? hy))⟩
    | t x => exact hle.elim
    | und => exact hle.elim
    | any => exact hle.elim

/-- What is asked of the new memory. -/
structure LeM (n0 : Nat) (ρ : Nat → Nat) (m m' : List Blk) : Prop where
  low : ∀ id, id < n0 → ρ id = id
  inj : ∀ i j, i < m'.length → j < m'.length → ρ i = ρ j → i = j
  blk : ∀ id b', m'[id]? = some b' → ∃ b, m[ρ id]? = some b ∧ LeB ρ m'.length b' b
  len : n0 ≤ m'.length

theorem leM_ok {n0 : Nat} {m' : List Blk} (h : LeM n0 ρ m m') (hm : MemOk X σ m w) : MemOk X (cutS σ ρ m'.length) m' w ∧ Tr n0 σ m w (cutS σ ρ m'.length) m' w ∧ ∀ b, Lv X (cutS σ ρ m'.length) m' b → Lv X σ m b := by
  have cell : ∀ id cs', m'[id]? = some (.cells cs') → ∃ cs, m[ρ id]? = some (.cells cs) ∧ Cs.lt m'.length cs' ∧ LeCs ρ cs' cs := fun id cs' hid => by
    obtain ⟨b, h1, h2⟩ := h.blk id _ hid
    cases b with
    | cells cs => exact ⟨cs, h1, h2.1, h2.2⟩
    | hole => exact h2.elim
  have hlt : ∀ id b, m'[id]? = some b → id < m'.length := fun id b hid => (List.getElem?_eq_some_iff.1 hid).1
  have cut : ∀ id, id < m'.length → cutS σ ρ m'.length id = σ (ρ id) := fun id h => if_pos h
  have hown : ∀ b, Own (cutS σ ρ m'.length) m' b → Own σ m b := fun b ⟨id, cs, N, h1, h2⟩ => by
    obtain ⟨cs0, q1, _⟩ := cell id cs h1
    rw [cut id (hlt id _ h1)] at h2
    exact ⟨ρ id, cs0, N, q1, h2⟩
  have hlv : ∀ b, Lv X (cutS σ ρ m'.length) m' b → Lv X σ m b := fun b hb => hb.imp (fun h => h) (hown b)
  refine ⟨⟨fun id cs' hid => ?_, fun id id' b N N' cs cs' h1 h2 h3 h4 => ?_, fun b hb => ⟨(hm.far b hb).1, fun ho => (hm.far b hb).2 (hown b ho)⟩, fun id hid => if_neg (by omega)⟩,
    ⟨fun id hid => by rw [cut id (Nat.lt_of_lt_of_le hid h.len), h.low id hid], rfl, rfl, rfl, Nat.le_refl _, fun _ _ _ => rfl, fun b hb => .inl (hown b hb)⟩, hlv⟩
  · obtain ⟨cs, q1, q2, q3⟩ := cell id cs' hid
    rw [cut id (hlt id _ hid)]
    rcases hm.blk (ρ id) cs q1 with ⟨r1, rfl⟩ | ⟨b, N, r1, c, e, r2, r3, r4, r5⟩
    · refine .inl ⟨r1, ?_⟩
      have := leCs_len q3
      exact List.eq_nil_of_length_eq_zero (by simp at this; simp [this])
    · refine .inr ⟨b, N, r1, c, e, r2, r3, Nat.le_trans (leCs_len q3) r4, fun j x' hj => ?_⟩
      obtain ⟨x, p1, p2⟩ := leCs_get q3 hj
      obtain ⟨v, s1, s2⟩ := r5 j x p1
      exact ⟨v, s1, rep_le hlv s2 p2 (Cs.lt_iff.1 q2 x' (List.mem_of_getElem? hj))⟩
  · rw [cut id (hlt id _ h1)] at h3
    rw [cut id' (hlt id' _ h2)] at h4
    obtain ⟨cs0, q1, _⟩ := cell id cs h1
    obtain ⟨cs1, q2, _⟩ := cell id' cs' h2
    exact h.inj id id' (hlt id _ h1) (hlt id' _ h2) (hm.inj _ _ b N N' _ _ q1 q2 h3 h4)

theorem WkD.ren {n0 : Nat} {m' : List Blk} {d d' : D} (h : LeM n0 ρ m m') (hd : LeD ρ d' d) (hlt : d'.lt m'.length) : WkD n0 d m d' m' := fun X σ w v hm hv => by
  obtain ⟨h1, h2, h3⟩ := leM_ok h hm
  exact ⟨_, repD_le h3 hv hd hlt, h1, h2, h.len⟩

/-- The environment, slot by slot. -/
def LeE (ρ : Nat → Nat) (k : Nat) : Env → Env → Prop
  | [], _ => True
  | (t, d') :: r, e => (d'.lt k ∧ LeD ρ d' (get e t)) ∧ LeE ρ k r e

theorem leE_get : ∀ {e' e : Env}, LeE ρ k e' e → ∀ t, (get e' t).lt k ∧ LeD ρ (get e' t) (get e t)
  | [], e, _, t => ⟨trivial, by simp [get, LeD]⟩
  | (t0, d') :: r, e, h, t => by
    simp only [get]
    by_cases ht : t = t0
    · subst ht; rw [if_pos rfl]; exact h.1
    · rw [if_neg ht]; exact leE_get h.2 t

theorem Wk.ren {n0 : Nat} {m' : List Blk} {e e' : Env} (h : LeM n0 ρ m m') (he : LeE ρ m'.length e' e) : Wk n0 e m e' m' := fun n X σ w a r => by
  obtain ⟨h1, h2, h3⟩ := leM_ok h r.mem
  exact ⟨_, ⟨⟨fun t => let ⟨q1, q2⟩ := leE_get he t; repD_le h3 (r.env t) q2 q1, h1⟩, r.size, r.defers⟩, h2, h.len⟩

theorem WkD.refl {n0 : Nat} {d : D} (h : n0 ≤ m.length) : WkD n0 d m d m := fun _ σ _ _ hm hv => ⟨σ, hv, hm, Tr.refl _ _ _ _, h⟩

/-- Only some slots are still known. -/
theorem Wk.sub {n0 : Nat} {e e' : Env} (h : n0 ≤ m.length) (he : ∀ t, get e' t = get e t ∨ get e' t = .any) : Wk n0 e m e' m := fun _ _ σ _ _ r => ⟨σ, rl_less r he, Tr.refl _ _ _ _, h⟩

end
end Go.Proofs.YtneiicadhjdbiaaGreat.Ab
