/- Words for the claim: the abstract heap and the functions walked over it, part 1. -/
import Derived.Calls
import Derived.Orders
import Derived.LoopN
import Derived.Laws.IdiomCopy
import Derived.Laws.Cells
import Derived.Below
import Derived.Laws.Append
import Derived.Laws.Tables
import Derived.Attr
import Derived.ChangeArms
import Derived.WalkKit
import Derived.ProofKit
import Derived.OpenShut
import Derived.ChangeOld
import Derived.SizedLaws
import Derived.Sort.Grow
import Derived.Test.YtjhonhliiilhdaaProg
import Derived.KernelRfl
import Derived.Shelf.Sort.Plain
import Derived.Test.YtjhonhliiilhdaaRows
set_option linter.all false
/- The abstract heap: values and objects by number, and how they stand to a world of the model. No program in sight. -/
namespace Go.Ah

/-- Where an abstract object lies: its block, the cell at which it begins, the cells of one element, and how many cells there are (spare ones too). -/
structure Loc where
  blk : Nat
  at_ : Nat
  esz : Nat
  lim : Nat
abbrev Map := Nat → Option Loc

/-- A capacity from here on is not known. -/
def unk : Nat := 9223372036854775808

inductive VRel (m : Map) : Value → Value → Prop
  | bool (b : Bool) : VRel m (.bool b) (.bool b)
  | int (k : IntKind) (n : Int) : VRel m (.int k n) (.int k n)
  | string (s : ByteArray) : VRel m (.string s) (.string s)
  | pnil : VRel m (.pointer none) (.pointer none)
  | ptr {id off : Nat} {l : Loc} : m id = some l → VRel m (.pointer (some ⟨id, off, none⟩)) (.pointer (some ⟨l.blk, l.at_ + off, none⟩))
  | snil : VRel m (.slice none 0 0) (.slice none 0 0)
  | sl {id off len cap c : Nat} {l : Loc} {a : Addr} : m id = some l → len ≤ c → (cap < unk → c = cap) → (a = ⟨l.blk, l.at_ + off, none⟩ ∧ off + c * l.esz ≤ l.lim ∨ c = 0) →
      VRel m (.slice (some ⟨id, off, none⟩) len cap) (.slice (some a) len c)
  | mnil : VRel m (.map none) (.map none)
  | map {id : Nat} {l : Loc} : m id = some l → VRel m (.map (some id)) (.map (some l.blk))
  | func (f : Fn) {xs ys us vs : Array Value} : xs.size = ys.size → (∀ i, i < xs.size → VRel m (xs.getD i undef) (ys.getD i undef)) →
      us.size = vs.size → (∀ i, i < us.size → VRel m (us.getD i undef) (vs.getD i undef)) → VRel m (.func f xs us) (.func f ys vs)
  | fnil : VRel m .nilFunc .nilFunc
  | inil : VRel m .nilIface .nilIface
  | iface (t : TypeId) {v v' : Value} : VRel m v v' → VRel m (.iface t v) (.iface t v')
  | agg {xs ys : Array Value} : xs.size = ys.size → (∀ i, i < xs.size → VRel m (xs.getD i undef) (ys.getD i undef)) → VRel m (.agg xs) (.agg ys)
  | tuple {xs ys : Array Value} : xs.size = ys.size → (∀ i, i < xs.size → VRel m (xs.getD i undef) (ys.getD i undef)) → VRel m (.tuple xs) (.tuple ys)

theorem VRel.undef (m : Map) : VRel m Go.undef Go.undef := .tuple rfl (fun _ h => by simp at h)

theorem VRel.mono {m m' : Map} (hm : ∀ id x, m id = some x → m' id = some x) {v v' : Value} (h : VRel m v v') : VRel m' v v' := by
  induction h with
  | bool b => exact .bool b
  | int k n => exact .int k n
  | string s => exact .string s
  | pnil => exact .pnil
  | ptr h => exact .ptr (hm _ _ h)
  | snil => exact .snil
  | sl h a b c => exact .sl (hm _ _ h) a b c
  | mnil => exact .mnil
  | map h => exact .map (hm _ _ h)
  | func f a _ c _ ih1 ih2 => exact .func f a ih1 c ih2
  | fnil => exact .fnil
  | inil => exact .inil
  | iface t _ ih => exact .iface t ih
  | agg a _ ih => exact .agg a ih
  | tuple a _ ih => exact .tuple a ih

/-- Two rows of values. -/
def VRels (m : Map) (xs ys : Array Value) : Prop := xs.size = ys.size ∧ ∀ i, i < xs.size → VRel m (xs.getD i undef) (ys.getD i undef)
def VRelL (m : Map) (xs ys : List Value) : Prop := xs.length = ys.length ∧ ∀ i, i < xs.length → VRel m (xs.getD i undef) (ys.getD i undef)

theorem VRels.mono {m m' : Map} (hm : ∀ id x, m id = some x → m' id = some x) {xs ys : Array Value} (h : VRels m xs ys) : VRels m' xs ys :=
  ⟨h.1, fun i hi => (h.2 i hi).mono hm⟩
theorem VRelL.mono {m m' : Map} (hm : ∀ id x, m id = some x → m' id = some x) {xs ys : List Value} (h : VRelL m xs ys) : VRelL m' xs ys :=
  ⟨h.1, fun i hi => (h.2 i hi).mono hm⟩

theorem array_getD_list (xs : Array Value) (i : Nat) (d : Value) : xs.getD i d = xs.toList.getD i d := by
  simp [Array.getD_eq_getD_getElem?]

theorem VRels.list {m : Map} {xs ys : Array Value} (h : VRels m xs ys) : VRelL m xs.toList ys.toList :=
  ⟨by simpa using h.1, fun i hi => by rw [← array_getD_list, ← array_getD_list]; exact h.2 i (by simpa using hi)⟩
theorem VRelL.array {m : Map} {xs ys : Array Value} (h : VRelL m xs.toList ys.toList) : VRels m xs ys :=
  ⟨by simpa using h.1, fun i hi => by rw [array_getD_list, array_getD_list]; exact h.2 i (by simpa using hi)⟩

theorem VRelL.nil (m : Map) : VRelL m [] [] := ⟨rfl, fun _ h => by simp at h⟩
theorem VRelL.cons {m : Map} {x y : Value} {xs ys : List Value} (h : VRel m x y) (hs : VRelL m xs ys) : VRelL m (x :: xs) (y :: ys) := by
  refine ⟨by simp [hs.1], fun i hi => ?_⟩
  cases i with
  | zero => simpa using h
  | succ i => simpa using hs.2 i (by simpa using hi)
theorem VRelL.cons_inv {m : Map} {x : Value} {xs zs : List Value} (h : VRelL m (x :: xs) zs) : ∃ y ys, zs = y :: ys ∧ VRel m x y ∧ VRelL m xs ys := by
  cases zs with
  | nil => simp [VRelL] at h
  | cons y ys =>
    refine ⟨y, ys, rfl, by simpa using h.2 0 (by simp), by simpa using h.1, fun i hi => ?_⟩
    simpa using h.2 (i + 1) (by simpa using hi)
theorem VRelL.nil_inv {m : Map} {zs : List Value} (h : VRelL m [] zs) : zs = [] := by
  cases zs with
  | nil => rfl
  | cons y ys => simp [VRelL] at h
theorem VRelL.append {m : Map} {xs ys us vs : List Value} (h : VRelL m xs ys) (k : VRelL m us vs) : VRelL m (xs ++ us) (ys ++ vs) := by
  induction xs generalizing ys with
  | nil => rw [h.nil_inv]; exact k
  | cons x xs ih => obtain ⟨y, ys, rfl, h1, h2⟩ := h.cons_inv; exact (ih h2).cons h1
theorem VRelL.take {m : Map} {xs ys : List Value} (h : VRelL m xs ys) (n : Nat) : VRelL m (xs.take n) (ys.take n) := by
  induction xs generalizing ys n with
  | nil => rw [h.nil_inv]; simpa using VRelL.nil m
  | cons x xs ih =>
    obtain ⟨y, ys, rfl, h1, h2⟩ := h.cons_inv
    cases n with
    | zero => exact VRelL.nil m
    | succ n => exact (ih h2 n).cons h1
theorem VRelL.drop {m : Map} {xs ys : List Value} (h : VRelL m xs ys) (n : Nat) : VRelL m (xs.drop n) (ys.drop n) := by
  induction xs generalizing ys n with
  | nil => rw [h.nil_inv]; simpa using VRelL.nil m
  | cons x xs ih =>
    obtain ⟨y, ys, rfl, h1, h2⟩ := h.cons_inv
    cases n with
    | zero => exact h2.cons h1
    | succ n => exact ih h2 n
theorem VRelL.set {m : Map} {xs ys : List Value} (h : VRelL m xs ys) (n : Nat) {x y : Value} (hx : VRel m x y) : VRelL m (xs.set n x) (ys.set n y) := by
  induction xs generalizing ys n with
  | nil => rw [h.nil_inv]; simpa using VRelL.nil m
  | cons x xs ih =>
    obtain ⟨y, ys, rfl, h1, h2⟩ := h.cons_inv
    cases n with
    | zero => exact h2.cons hx
    | succ n => exact (ih h2 n).cons h1

theorem VRel.agg' {m : Map} {xs ys : Array Value} (h : VRels m xs ys) : VRel m (.agg xs) (.agg ys) := .agg h.1 h.2
theorem VRel.tuple' {m : Map} {xs ys : Array Value} (h : VRels m xs ys) : VRel m (.tuple xs) (.tuple ys) := .tuple h.1 h.2

theorem VRel.cells {m : Map} {v v' : Value} (h : VRel m v v') : VRelL m v.cells.toList v'.cells.toList := by
  cases h with
  | agg a b => exact VRels.list ⟨a, b⟩
  | _ => exact (VRelL.nil m).cons (by constructor <;> assumption)

theorem VRel.one {m : Map} {v v' : Value} (h : VRel m v v') : v'.oneCell' = v.oneCell' := by cases h <;> rfl

/-- An abstract object. -/
inductive AObj where
  | ro (esz : Nat) (cells : List Value)
  | rw (esz : Nat) (cells : List Value)
  | mp (entries : List (Value × Value))
  | dead

structure AHeap where
  objs : List AObj

def AHeap.get (H : AHeap) (id : Nat) : AObj := H.objs.getD id .dead
def AHeap.size (H : AHeap) : Nat := H.objs.length
def AHeap.push (H : AHeap) (o : AObj) : AHeap := ⟨H.objs ++ [o]⟩
def AHeap.set (H : AHeap) (id : Nat) (o : AObj) : AHeap := ⟨H.objs.set id o⟩

def AObj.hot : AObj → Prop
  | .rw _ _ | .mp _ => True
  | _ => False
def AHeap.hot (H : AHeap) (id : Nat) : Prop := (H.get id).hot

theorem size_push (H : AHeap) (o : AObj) : (H.push o).size = H.size + 1 := by simp [AHeap.size, AHeap.push]
theorem size_set (H : AHeap) (id : Nat) (o : AObj) : (H.set id o).size = H.size := by simp [AHeap.size, AHeap.set]
theorem get_push_same (H : AHeap) (o : AObj) : (H.push o).get H.size = o := by simp [AHeap.get, AHeap.push, AHeap.size]
theorem get_push_lt (H : AHeap) (o : AObj) (id : Nat) (h : id < H.size) : (H.push o).get id = H.get id := by
  simp only [AHeap.get, AHeap.push, AHeap.size] at *
  simp [List.getD_eq_getElem?_getD, List.getElem?_append_left h]
theorem get_set_same (H : AHeap) (id : Nat) (o : AObj) (h : id < H.size) : (H.set id o).get id = o := by
  simp only [AHeap.get, AHeap.set, AHeap.size] at *
  simp [List.getD_eq_getElem?_getD, h]
theorem get_set_ne (H : AHeap) (id id' : Nat) (o : AObj) (h : id ≠ id') : (H.set id o).get id' = H.get id' := by
  simp only [AHeap.get, AHeap.set] at *
  simp [List.getD_eq_getElem?_getD, List.getElem?_set_ne h]
theorem get_ge (H : AHeap) (id : Nat) (h : H.size ≤ id) : H.get id = .dead := by
  simp only [AHeap.get, AHeap.size] at *
  simp [List.getD_eq_getElem?_getD, List.getElem?_eq_none h]
theorem lt_of_hot {H : AHeap} {id : Nat} (h : H.hot id) : id < H.size := by
  rcases Nat.lt_or_ge id H.size with h' | h'
  · exact h'
  · rw [AHeap.hot, get_ge H id h'] at h; exact h.elim

/-- Entries of a map: no entry is ever taken out. -/
def MRel (m : Map) (es : List (Value × Value)) (es' : Array MapEntry) (clk : Nat) : Prop :=
  es'.size = es.length ∧ clk = es.length ∧ ∀ j k v, es[j]? = some (k, v) → ∃ v', es'[j]? = some (MapEntry.mk k v' j) ∧ VRel m v v'

structure Rel (m : Map) (H : AHeap) (w : World) : Prop where
  dom : ∀ id l, m id = some l → l.blk < w.heap.size
  ro : ∀ id l e cs, m id = some l → H.get id = .ro e cs → l.esz = e ∧ ∀ j, j < cs.length → ∃ v', w.cell? ⟨l.blk, l.at_ + j, none⟩ = some v' ∧ VRel m (cs.getD j undef) v'
  rw : ∀ id l e cs, m id = some l → H.get id = .rw e cs → l.esz = e ∧ cs.length ≤ l.lim ∧
    (∀ j, j < cs.length → ∃ v', w.cell? ⟨l.blk, l.at_ + j, none⟩ = some v' ∧ VRel m (cs.getD j undef) v') ∧
    (∀ j, j < l.lim → (w.cell? ⟨l.blk, l.at_ + j, none⟩).isSome = true ∧ w.frozen? ⟨l.blk, l.at_ + j, none⟩ = false)
  mp : ∀ id l es, m id = some l → H.get id = .mp es → ∃ es' clk, w.heap[l.blk]? = some (.map es' clk) ∧ MRel m es es' clk
  apart : ∀ id id' l l', m id = some l → m id' = some l' → l.blk = l'.blk → id ≠ id' → H.hot id → H.get id' = .dead

/-- Abstractly: what isn't hot stays as it is. -/
structure AExt (H H' : AHeap) : Prop where
  size : H.size ≤ H'.size
  get : ∀ id, id < H.size → ¬ H.hot id → H'.get id = H.get id

/-- Abstractly: nothing that was there turns. -/
structure AKeep (H H' : AHeap) : Prop where
  size : H.size ≤ H'.size
  get : ∀ id, id < H.size → H'.get id = H.get id

theorem AKeep.ext {H H' : AHeap} (h : AKeep H H') : AExt H H' := ⟨h.size, fun id hi _ => h.get id hi⟩
theorem AKeep.refl (H : AHeap) : AKeep H H := ⟨Nat.le_refl _, fun _ _ => rfl⟩
theorem AExt.refl (H : AHeap) : AExt H H := ⟨Nat.le_refl _, fun _ _ _ => rfl⟩
theorem AKeep.trans {A B C : AHeap} (h : AKeep A B) (k : AKeep B C) : AKeep A C :=
  ⟨Nat.le_trans h.size k.size, fun id hi => (k.get id (Nat.lt_of_lt_of_le hi h.size)).trans (h.get id hi)⟩
theorem AExt.hot_old {H H' : AHeap} (h : AExt H H') {id : Nat} (hi : id < H.size) (hh : H'.hot id) : H.hot id := by
  by_cases hc : H.hot id
  · exact hc
  · rw [AHeap.hot, h.get id hi hc] at hh; exact hh
theorem AExt.trans {A B C : AHeap} (h : AExt A B) (k : AExt B C) : AExt A C :=
  ⟨Nat.le_trans h.size k.size, fun id hi hn => by
    have e := h.get id hi hn
    rw [k.get id (Nat.lt_of_lt_of_le hi h.size) (by rw [AHeap.hot, e]; exact hn), e]⟩
theorem AKeep.push (H : AHeap) (o : AObj) : AKeep H (H.push o) := ⟨by rw [size_push]; omega, fun id hi => get_push_lt H o id hi⟩
theorem AExt.set (H : AHeap) (id : Nat) (o : AObj) (h : H.hot id) : AExt H (H.set id o) :=
  ⟨by rw [size_set]; exact Nat.le_refl _, fun id' hi hn => get_set_ne H id id' o (fun e => hn (e ▸ h))⟩

theorem get_push_ne (H : AHeap) (o : AObj) (id : Nat) (h : id ≠ H.size) : (H.push o).get id = H.get id := by
  rcases Nat.lt_or_ge id H.size with h1 | h1
  · exact get_push_lt H o id h1
  · rw [get_ge H id h1, get_ge _ id (by rw [size_push]; omega)]

/-- The numbers that a step takes for its new objects are free. -/
def Free (m : Map) (H H' : AHeap) : Prop := ∀ id, H.size ≤ id → id < H'.size → m id = none

theorem Free.push {m : Map} {H : AHeap} {o : AObj} (h : Free m H (H.push o)) : m H.size = none := h _ (Nat.le_refl _) (by rw [size_push]; omega)
theorem Free.none {m : Map} {H : AHeap} : Free m H H := fun _ h k => by omega
theorem Free.left {m : Map} {A B C : AHeap} (h : Free m A C) (k : B.size ≤ C.size) : Free m A B := fun id h1 h2 => h id h1 (Nat.lt_of_lt_of_le h2 k)

/-- What a step does: the abstract heap goes from H to H', the world from w to w'. -/
structure Step (m : Map) (H : AHeap) (w : World) (m' : Map) (H' : AHeap) (w' : World) : Prop where
  rel : Rel m' H' w'
  ext : ∀ id x, m id = some x → m' id = some x
  new : ∀ id x, m' id = some x → m id = some x ∨ (H.size ≤ id ∧ id < H'.size ∧ (w.heap.size ≤ x.blk ∨ ∃ id0 l, m id0 = some l ∧ l.blk = x.blk ∧ H.hot id0))
  kept : ∀ b, b < w.heap.size → (∀ id l, m id = some l → l.blk = b → ¬ H.hot id) → w'.heap[b]? = w.heap[b]?
  size : w.heap.size ≤ w'.heap.size
  os : w'.os = w.os
  tape : w'.tape = w.tape
  output : w'.output = w.output
  aext : AExt H H'

theorem Step.refl {m : Map} {H : AHeap} {w : World} (h : Rel m H w) : Step m H w m H w :=
  ⟨h, fun _ _ h => h, fun _ _ h => .inl h, fun _ _ _ => rfl, Nat.le_refl _, rfl, rfl, rfl, AExt.refl H⟩

theorem Free.right {m1 m2 : Map} {H1 H2 H3 : AHeap} {w1 w2 : World} (h : Free m1 H1 H3) (k : Step m1 H1 w1 m2 H2 w2) : Free m2 H2 H3 := by
  intro id h1 h2
  cases hm : m2 id with
  | none => rfl
  | some x =>
    rcases k.new id x hm with h3 | ⟨_, h4, _⟩
    · rw [h id (Nat.le_trans k.aext.size h1) h2] at h3; cases h3
    · omega

theorem Step.hot_old {m1 m2 : Map} {H1 H2 : AHeap} {w1 w2 : World} (f : Free m1 H1 H2) (h : Step m1 H1 w1 m2 H2 w2) {id : Nat} {l : Loc} (hm : m2 id = some l) (hh : H2.hot id) :
    w1.heap.size ≤ l.blk ∨ ∃ id0 l0, m1 id0 = some l0 ∧ l0.blk = l.blk ∧ H1.hot id0 := by
  rcases h.new id l hm with h1 | ⟨h1, _, h2⟩
  · have : id < H1.size := by
      rcases Nat.lt_or_ge id H1.size with h3 | h3
      · exact h3
      · rw [f id h3 (lt_of_hot hh)] at h1; cases h1
    exact .inr ⟨id, l, h1, rfl, h.aext.hot_old this hh⟩
  · exact h2

theorem Step.trans {m1 m2 m3 : Map} {H1 H2 H3 : AHeap} {w1 w2 w3 : World} (f : Free m1 H1 H3) (h : Step m1 H1 w1 m2 H2 w2) (k : Step m2 H2 w2 m3 H3 w3) : Step m1 H1 w1 m3 H3 w3 := by
  have hot2 := fun id l => h.hot_old (f.left k.aext.size) (id := id) (l := l)
  refine ⟨k.rel, fun id x hx => k.ext _ _ (h.ext _ _ hx), fun id x hx => ?_, fun b hb hn => ?_, Nat.le_trans h.size k.size, k.os.trans h.os, k.tape.trans h.tape, k.output.trans h.output, h.aext.trans k.aext⟩
  · rcases k.new id x hx with h1 | ⟨h1, h1', h2⟩
    · rcases h.new id x h1 with h3 | ⟨h3, h3', h4⟩
      · exact .inl h3
      · exact .inr ⟨h3, Nat.lt_of_lt_of_le h3' k.aext.size, h4⟩
    · refine .inr ⟨Nat.le_trans h.aext.size h1, h1', ?_⟩
      rcases h2 with h2 | ⟨id0, l, h3, h4, h5⟩
      · exact .inl (Nat.le_trans h.size h2)
      · rw [← h4]; exact hot2 id0 l h3 h5
  · rw [k.kept b (Nat.lt_of_lt_of_le hb h.size) (fun id l hm e hh => ?_), h.kept b hb hn]
    rcases hot2 id l hm hh with h1 | ⟨id0, l0, h1, h2, h3⟩
    · omega
    · exact hn id0 l0 h1 (h2.trans e) h3

/-- The world may have drawn. -/
theorem Rel.drew {m : Map} {H : AHeap} {w w' : World} (h : Rel m H w) (e : w'.heap = w.heap) : Rel m H w' := by
  have hc : ∀ a, w'.cell? a = w.cell? a := fun a => by simp [World.cell?, e]
  have hf : ∀ a, w'.frozen? a = w.frozen? a := fun a => by simp [World.frozen?, e]
  refine ⟨fun id l hm => by rw [e]; exact h.dom id l hm, fun id l e cs hm hg => by simp only [hc]; exact h.ro id l e cs hm hg,
    fun id l e cs hm hg => by simp only [hc, hf]; exact h.rw id l e cs hm hg, fun id l es hm hg => by rw [e]; exact h.mp id l es hm hg, h.apart⟩

theorem Step.drew {m : Map} {H : AHeap} {w w' : World} (h : Rel m H w) (e : w'.heap = w.heap) (e1 : w'.os = w.os) (e2 : w'.tape = w.tape) (e3 : w'.output = w.output) : Step m H w m H w' :=
  ⟨h.drew e, fun _ _ h => h, fun _ _ h => .inl h, fun b _ _ => by rw [e], by rw [e]; exact Nat.le_refl _, e1, e2, e3, AExt.refl H⟩

end Go.Ah

/- What each operation does to the abstract heap, and that the model's operation does the same to the world. -/
namespace Go.Ah

abbrev Slots := Nat → Value
def evO (σ : Slots) : Operand → Value
  | .tmp t => σ t
  | .const v => v
  | .global _ => undef
  | .func f => .func (.func f) #[] #[]

def plainCell : Value → Bool
  | .bool _ | .int _ _ | .string _ | .pointer none | .slice none 0 0 | .map none | .nilFunc | .nilIface => true
  | _ => false
def plainV : Value → Bool
  | .agg cs => cs.toList.all plainCell
  | v => plainCell v
def opdOk : Operand → Bool
  | .const v => plainV v
  | .global _ => false
  | _ => true

theorem VRel.plainCell {m : Map} {v : Value} (h : plainCell v = true) : VRel m v v := by
  cases v with
  | bool b => exact .bool b
  | int k n => exact .int k n
  | string s => exact .string s
  | pointer a => cases a with
    | none => exact .pnil
    | some a => simp [Ah.plainCell] at h
  | slice a l c =>
    cases a with
    | none => cases l with
      | zero => cases c with
        | zero => exact .snil
        | succ c => simp [Ah.plainCell] at h
      | succ l => simp [Ah.plainCell] at h
    | some a => simp [Ah.plainCell] at h
  | map r => cases r with
    | none => exact .mnil
    | some r => simp [Ah.plainCell] at h
  | nilFunc => exact .fnil
  | nilIface => exact .inil
  | _ => simp [Ah.plainCell] at h
theorem VRelL.plain {m : Map} {cs : List Value} (h : cs.all plainCell = true) : VRelL m cs cs := by
  induction cs with
  | nil => exact VRelL.nil m
  | cons x xs ih => simp at h; exact (ih (by simpa using h.2)).cons (VRel.plainCell h.1)
theorem VRel.plain {m : Map} {v : Value} (h : plainV v = true) : VRel m v v := by
  cases v with
  | agg cs => exact .agg' (VRelL.array (VRelL.plain h))
  | _ => exact VRel.plainCell h

/-- The slots of a frame. -/
structure TRel (m : Map) (n : Nat) (σ : Slots) (tmps : Array Value) : Prop where
  size : tmps.size = n
  val : ∀ t, t < n → VRel m (σ t) (tmps.getD t undef)

def Slots.put (σ : Slots) (d : Option Tmp) (v : Value) : Slots := match d with
  | some d => fun t => if t = d then v else σ t
  | none => σ
def dstOk (n : Nat) : Option Tmp → Bool
  | some d => decide (d < n)
  | none => true

theorem TRel.mono {m m' : Map} (hm : ∀ id x, m id = some x → m' id = some x) {n : Nat} {σ : Slots} {tmps : Array Value} (h : TRel m n σ tmps) : TRel m' n σ tmps :=
  ⟨h.size, fun t ht => (h.val t ht).mono hm⟩
theorem TRel.put {m : Map} {n : Nat} {σ : Slots} {a : Act} (h : TRel m n σ a.tmps) (d : Option Tmp) {v v' : Value} (hv : VRel m v v') :
    TRel m n (σ.put d v) (a.put d v').tmps := by
  cases d with
  | none => exact h
  | some d =>
    refine ⟨by simp [Act.put, h.size], fun t ht => ?_⟩
    simp only [Slots.put, Act.put, Array.getD_eq_getD_getElem?]
    by_cases e : t = d
    · subst e
      have : t < a.tmps.size := by rw [h.size]; exact ht
      simp [this, hv]
    · have := h.val t ht
      rw [Array.getD_eq_getD_getElem?] at this
      simp [e, Array.getElem?_setIfInBounds_ne (Ne.symm e), this]

def tmpsOk (n : Nat) : Operand → Bool
  | .tmp t => decide (t < n)
  | x => opdOk x
theorem EvRel {m : Map} {n : Nat} {σ : Slots} {a : Act} (h : TRel m n σ a.tmps) {x : Operand} (hx : tmpsOk n x = true) : VRel m (evO σ x) (a.eval x) := by
  cases x with
  | tmp t => exact h.val t (of_decide_eq_true hx)
  | const v => exact VRel.plain hx
  | global g => simp [tmpsOk, opdOk] at hx
  | func f => exact .func _ rfl (fun _ h => by simp at h) rfl (fun _ h => by simp at h)
theorem EvRels {m : Map} {n : Nat} {σ : Slots} {a : Act} (h : TRel m n σ a.tmps) {xs : Array Operand} (hx : xs.all (tmpsOk n) = true) : VRels m (xs.map (evO σ)) (xs.map a.eval) := by
  refine ⟨by simp, fun i hi => ?_⟩
  have hi' : i < xs.size := by simpa using hi
  have : tmpsOk n xs[i] = true := by
    have := Array.all_eq_true.1 hx i hi'
    exact this
  simpa [Array.getD_eq_getD_getElem?, hi'] using EvRel h this

/-- A call of function f, by whatever rule the model has for it. -/
def Invokes (P : Program) (f : FuncId) (args : Array Value) (w : World) (R : Value → World → Prop) : Prop :=
  match (callFunc f args).run P w with
  | .ok (.value v) w' => R v w'
  | .ok (.enter f' args') w' => Calls P f' args' w' fun e w'' => match e with
    | .returned v => R v w''
    | _ => False
  | _ => False

/-- f, called with args over H, gives r and leaves H'. -/
def CallsA (P : Program) (f : FuncId) (args : Array Value) (H : AHeap) (r : Value) (H' : AHeap) : Prop :=
  AExt H H' ∧ ∀ m w args', Rel m H w → Free m H H' → VRels m args args' → Invokes P f args' w fun v' w' => ∃ m', VRel m' r v' ∧ Step m H w m' H' w'

def tSz (P : Program) (t : TypeId) : Option Nat := (P.info? t).map (·.size)
def tBy (P : Program) (t : TypeId) : Option Nat := (P.info? t).map (·.bytes)
def tZero (P : Program) (t : TypeId) : Option Value := (P.info? t).bind (·.zero)
def aggD : TypeDesc → Bool
  | .struct _ | .array _ _ => true
  | _ => false
/-- A type's size, and whether it is a struct or an array. -/
def tVar (P : Program) (t : TypeId) : Option (Nat × Bool) := match P.info? t, P.underlying t with
  | some i, some d => some (i.size, aggD d)
  | _, _ => none
/-- A slice type's element: its cells, its bytes, its zero. -/
def tElem (P : Program) (t : TypeId) : Option (Nat × Nat × Option Value) := match P.underlying t with
  | some (.slice e) => (P.info? e).map fun i => (i.size, i.bytes, i.zero)
  | _ => none
/-- A struct type's field: its place, its size, whether it is a struct or an array. -/
def tField (P : Program) (t : TypeId) (f : Nat) : Option (Nat × Nat × Bool) := match P.underlying t with
  | some (.struct fs) => match fs[f]? with
    | some fd => (tVar P fd.type).map fun x => (fd.offset, x.1, x.2)
    | none => none
  | _ => none

def splice (cs : List Value) (off : Nat) : List Value → List Value
  | [] => cs
  | v :: r => splice (cs.set off v) (off + 1) r

def AObj.cells? : AObj → Option (List Value)
  | .ro _ cs | .rw _ cs => some cs
  | _ => none
def AObj.esz? : AObj → Option Nat
  | .ro e _ | .rw e _ => some e
  | _ => none

/-- What a variable of size n at cell off holds. -/
def cellsAt (cs : List Value) (off : Nat) (x : Nat × Bool) (K : Value → Prop) : Prop :=
  if x.2 then off + x.1 ≤ cs.length ∧ K (.agg ((cs.drop off).take x.1).toArray) else off < cs.length ∧ K (cs.getD off undef)

def aLoad (P : Program) (H : AHeap) (t : TypeId) (p : Value) (K : Value → Prop) : Prop :=
  match p with
  | .pointer (some ⟨id, off, none⟩) => match tVar P t, (H.get id).cells? with
    | some x, some cs => cellsAt cs off x K
    | _, _ => False
  | _ => False

def aStore (P : Program) (H : AHeap) (t : TypeId) (p v : Value) (K : AHeap → Prop) : Prop :=
  match p with
  | .pointer (some ⟨id, off, none⟩) => match tSz P t, H.get id with
    | some n, .rw e cs => v.cells.size = n ∧ v.cells.toList.all (·.oneCell') = true ∧ off + n ≤ cs.length ∧ K (H.set id (.rw e (splice cs off v.cells.toList)))
    | _, _ => False
  | _ => False


theorem addr_add (b o j : Nat) : (⟨b, o, none⟩ : Addr).add j = ⟨b, o + j, none⟩ := by
  unfold Addr.add; split
  · simp_all
  · rfl

theorem Rel.cell {m : Map} {H : AHeap} {w : World} (h : Rel m H w) {id : Nat} {l : Loc} {cs : List Value} (hm : m id = some l) (hc : (H.get id).cells? = some cs)
    {j : Nat} (hj : j < cs.length) : ∃ v', w.cell? ⟨l.blk, l.at_ + j, none⟩ = some v' ∧ VRel m (cs.getD j undef) v' := by
  cases hg : H.get id with
  | ro e c => rw [hg] at hc; cases hc; exact (h.ro id l e cs hm hg).2 j hj
  | rw e c => rw [hg] at hc; cases hc; exact (h.rw id l e cs hm hg).2.2.1 j hj
  | mp e => rw [hg] at hc; cases hc
  | dead => rw [hg] at hc; cases hc
theorem Rel.esz {m : Map} {H : AHeap} {w : World} (h : Rel m H w) {id e : Nat} {l : Loc} (hm : m id = some l) (hc : (H.get id).esz? = some e) : l.esz = e := by
  cases hg : H.get id with
  | ro e c => rw [hg] at hc; cases hc; exact (h.ro id l _ _ hm hg).1
  | rw e c => rw [hg] at hc; cases hc; exact (h.rw id l _ _ hm hg).1
  | mp e => rw [hg] at hc; cases hc
  | dead => rw [hg] at hc; cases hc

theorem VRel.ptr_inv {m : Map} {id off : Nat} {p' : Value} (h : VRel m (.pointer (some ⟨id, off, none⟩)) p') :
    ∃ l, m id = some l ∧ p' = .pointer (some ⟨l.blk, l.at_ + off, none⟩) := by
  cases h with
  | ptr h => exact ⟨_, h, rfl⟩

theorem tVar_some {P : Program} {t : TypeId} {x : Nat × Bool} (h : tVar P t = some x) :
    ∃ i d, P.info? t = some i ∧ P.underlying t = some d ∧ x = (i.size, aggD d) := by
  unfold tVar at h
  split at h
  · rename_i i d h1 h2; exact ⟨i, d, h1, h2, by simpa using h.symm⟩
  · cases h

theorem run_isAgg {P : Program} {t : TypeId} {d : TypeDesc} (h : P.underlying t = some d) (w : World) : (isAgg t).run P w = .ok (aggD d) w := by
  simp only [isAgg, Sem.run_bind, run_underlying h, Result.andThen_ok]
  cases d <;> rfl

theorem run_sizeOf' {P : Program} {t : TypeId} {i : TypeInfo} (h : P.info? t = some i) (w : World) : (sizeOf t).run P w = .ok i.size w := by
  simp [sizeOf, typeInfo, h]

/-- A run of cells that is read. -/
theorem Rel.run_cells {P : Program} {m : Map} {H : AHeap} {w : World} (h : Rel m H w) {id : Nat} {l : Loc} {cs : List Value} (hm : m id = some l) (hc : (H.get id).cells? = some cs)
    (off n : Nat) (hn : off + n ≤ cs.length) : ∃ cs' : List Value, (loadCells ⟨l.blk, l.at_ + off, none⟩ n).run P w = .ok cs'.toArray w ∧ VRelL m ((cs.drop off).take n) cs' ∧
      cs'.length = n ∧ ∀ j v, cs'[j]? = some v → w.cell? ⟨l.blk, l.at_ + off + j, none⟩ = some v := by
  let f := fun j => (w.cell? ⟨l.blk, l.at_ + off + j, none⟩).getD undef
  have hf : ∀ j, j < n → w.cell? ⟨l.blk, l.at_ + off + j, none⟩ = some (f j) ∧ VRel m (cs.getD (off + j) undef) (f j) := by
    intro j hj
    obtain ⟨v', h1, h2⟩ := h.cell hm hc (j := off + j) (by omega)
    rw [← Nat.add_assoc] at h1
    refine ⟨by simp only [f, h1, Option.getD_some], ?_⟩
    simp only [f, h1, Option.getD_some]
    exact h2
  refine ⟨(List.range n).map f, ?_, ⟨by simp; omega, fun i hi => ?_⟩, by simp, fun j v hv => ?_⟩
  · exact run_loadCells w ⟨l.blk, l.at_ + off, none⟩ n f (fun j hj => by rw [addr_add]; exact (hf j hj).1)
  · have hi' : i < n := by simp at hi; omega
    have := (hf i hi').2
    simp only [List.getD_eq_getElem?_getD] at *
    simp [hi', List.getElem?_drop]
    exact this
  · by_cases hj : j < n
    · simp [hj] at hv; rw [(hf j hj).1, hv]
    · simp [hj] at hv

theorem cellsAt_sound {cs : List Value} {off : Nat} {x : Nat × Bool} {K : Value → Prop} (h : cellsAt cs off x K) : ∃ v, K v ∧
    (x.2 = true → off + x.1 ≤ cs.length ∧ v = .agg ((cs.drop off).take x.1).toArray) ∧ (x.2 = false → off < cs.length ∧ v = cs.getD off undef) := by
  unfold cellsAt at h
  split at h
  · rename_i e; exact ⟨_, h.2, fun _ => ⟨h.1, rfl⟩, fun e' => by simp [e] at e'⟩
  · rename_i e; exact ⟨_, h.2, fun e' => absurd e' e, fun _ => ⟨h.1, rfl⟩⟩

theorem aLoad_sound {P : Program} {H : AHeap} {t : TypeId} {p : Value} {K : Value → Prop} (h : aLoad P H t p K) :
    ∃ v, K v ∧ ∀ m w p', Rel m H w → VRel m p p' → ∃ v', (Instr.loadAt t p').run P w = .ok v' w ∧ VRel m v v' := by
  unfold aLoad at h
  split at h
  · rename_i id off
    split at h
    · rename_i x cs hx hc
      obtain ⟨v, hK, h1, h2⟩ := cellsAt_sound h
      refine ⟨v, hK, fun m w p' hr hp => ?_⟩
      obtain ⟨l, hm, rfl⟩ := hp.ptr_inv
      obtain ⟨i, d, hi, hd, rfl⟩ := tVar_some hx
      cases hag : aggD d with
      | true =>
        obtain ⟨h3, rfl⟩ := h1 hag
        obtain ⟨cs', h4, h5, _⟩ := hr.run_cells (P := P) hm hc off i.size h3
        refine ⟨.agg cs'.toArray, ?_, .agg' (VRelL.array (by simpa using h5))⟩
        simp only [Instr.loadAt, Instr.sureAddr, loadVar, Sem.run_bind, Sem.run_pure, Result.andThen_ok, run_isAgg hd, hag, if_true, run_sizeOf' hi, h4]
      | false =>
        obtain ⟨h3, rfl⟩ := h2 hag
        obtain ⟨v', h4, h5⟩ := hr.cell hm hc h3
        exact ⟨v', by simp [Instr.loadAt, Instr.sureAddr, loadVar, run_isAgg hd, hag, h4], h5⟩
    · exact h.elim
  · exact h.elim

end Go.Ah

/- Steps of the abstract heap and of the world side by side: a new object, cells written, a map written. -/
namespace Go.Ah

def Map.put (m : Map) (id : Nat) (x : Loc) : Map := fun i => if i = id then some x else m i

theorem Map.put_old {m : Map} {H : AHeap} (hf : m H.size = none) (x : Loc) : ∀ id y, m id = some y → (m.put H.size x) id = some y := by
  intro id y h
  simp only [Map.put]
  rw [if_neg (fun e => by rw [e, hf] at h; cases h)]
  exact h
theorem Map.put_same (m : Map) (id : Nat) (x : Loc) : (m.put id x) id = some x := by simp [Map.put]
theorem Map.put_inv {m : Map} {H : AHeap} {w : World} (hr : Rel m H w) {x : Loc} {id : Nat} {l : Loc} (h : (m.put H.size x) id = some l) :
    (id = H.size ∧ l = x) ∨ (m id = some l ∧ id ≠ H.size ∧ l.blk < w.heap.size) := by
  simp only [Map.put] at h
  split at h
  · rename_i e; cases h; exact .inl ⟨e, rfl⟩
  · rename_i e; exact .inr ⟨h, e, hr.dom _ _ h⟩

/-- A new object in a new block, of whatever kind. -/
theorem Step.push {m : Map} {H : AHeap} {w : World} (hr : Rel m H w) (hf : m H.size = none) (o : AObj) (ob : Obj) (e lim : Nat)
    (hro : ∀ e' cs, o = .ro e' cs → e = e' ∧ ∀ j, j < cs.length → ∃ v', (w.alloc ob).cell? ⟨w.heap.size, 0 + j, none⟩ = some v' ∧ VRel m (cs.getD j undef) v')
    (hrw : ∀ e' cs, o = .rw e' cs → e = e' ∧ cs.length ≤ lim ∧ (∀ j, j < cs.length → ∃ v', (w.alloc ob).cell? ⟨w.heap.size, 0 + j, none⟩ = some v' ∧ VRel m (cs.getD j undef) v') ∧
      ∀ j, j < lim → ((w.alloc ob).cell? ⟨w.heap.size, 0 + j, none⟩).isSome = true ∧ (w.alloc ob).frozen? ⟨w.heap.size, 0 + j, none⟩ = false)
    (hmp : ∀ es, o = .mp es → ∃ es' clk, ob = .map es' clk ∧ MRel m es es' clk) :
    Step m H w (m.put H.size ⟨w.heap.size, 0, e, lim⟩) (H.push o) (w.alloc ob) := by
  have old := Map.put_old hf ⟨w.heap.size, 0, e, lim⟩
  have hold : ∀ b, b < w.heap.size → (w.alloc ob).heap[b]? = w.heap[b]? := fun b hb => Go.RowKit.Below.heap_alloc _ _ _ hb
  have hcell : ∀ b j, b < w.heap.size → (w.alloc ob).cell? ⟨b, j, none⟩ = w.cell? ⟨b, j, none⟩ := fun b j hb => World.cell?_of_block (hold b hb)
  have hfroz : ∀ b j, b < w.heap.size → (w.alloc ob).frozen? ⟨b, j, none⟩ = w.frozen? ⟨b, j, none⟩ := fun b j hb => World.frozen?_of_block (hold b hb)
  refine ⟨⟨?_, ?_, ?_, ?_, ?_⟩, old, ?_, fun b hb _ => hold b hb, by simp, rfl, rfl, rfl, (AKeep.push H _).ext⟩
  · intro id l h
    rw [World.size_alloc]
    rcases Map.put_inv hr h with ⟨rfl, rfl⟩ | ⟨_, h1, h2⟩
    · simp
    · omega
  · intro id l e' cs' h hg
    rcases Map.put_inv hr h with ⟨rfl, rfl⟩ | ⟨h0, h1, h2⟩
    · rw [get_push_same] at hg
      obtain ⟨a1, a2⟩ := hro e' cs' hg
      exact ⟨a1, fun j hj => let ⟨v', b1, b2⟩ := a2 j hj; ⟨v', b1, b2.mono old⟩⟩
    · rw [get_push_ne H _ id h1] at hg
      obtain ⟨a1, a2⟩ := hr.ro id l e' cs' h0 hg
      exact ⟨a1, fun j hj => let ⟨v', b1, b2⟩ := a2 j hj; ⟨v', (hcell _ _ h2).trans b1, b2.mono old⟩⟩
  · intro id l e' cs' h hg
    rcases Map.put_inv hr h with ⟨rfl, rfl⟩ | ⟨h0, h1, h2⟩
    · rw [get_push_same] at hg
      obtain ⟨a1, a2, a3, a4⟩ := hrw e' cs' hg
      exact ⟨a1, a2, fun j hj => let ⟨v', b1, b2⟩ := a3 j hj; ⟨v', b1, b2.mono old⟩, a4⟩
    · rw [get_push_ne H _ id h1] at hg
      obtain ⟨a1, a2, a3, a4⟩ := hr.rw id l e' cs' h0 hg
      exact ⟨a1, a2, fun j hj => let ⟨v', b1, b2⟩ := a3 j hj; ⟨v', (hcell _ _ h2).trans b1, b2.mono old⟩,
        fun j hj => by rw [hcell _ _ h2, hfroz _ _ h2]; exact a4 j hj⟩
  · intro id l es h hg
    rcases Map.put_inv hr h with ⟨rfl, rfl⟩ | ⟨h0, h1, h2⟩
    · rw [get_push_same] at hg
      obtain ⟨es', clk, rfl, h5, h6, h7⟩ := hmp es hg
      exact ⟨es', clk, heap_alloc_new w _, h5, h6, fun j k v hj => let ⟨v', a1, a2⟩ := h7 j k v hj; ⟨v', a1, a2.mono old⟩⟩
    · rw [get_push_ne H _ id h1] at hg
      obtain ⟨es', clk, h4, h5, h6, h7⟩ := hr.mp id l es h0 hg
      exact ⟨es', clk, by rw [hold _ h2]; exact h4, h5, h6, fun j k v hj => let ⟨v', a1, a2⟩ := h7 j k v hj; ⟨v', a1, a2.mono old⟩⟩
  · intro id id' l l' h h' he hne hh
    rcases Map.put_inv hr h with ⟨rfl, rfl⟩ | ⟨h0, h1, h2⟩ <;> rcases Map.put_inv hr h' with ⟨rfl, rfl⟩ | ⟨h0', h1', h2'⟩
    · exact absurd rfl hne
    · simp at he; omega
    · simp at he; omega
    · rw [get_push_ne H _ id' h1']
      exact hr.apart id id' l l' h0 h0' he hne (by rw [AHeap.hot, get_push_ne H _ id h1] at hh; exact hh)
  · intro id x h
    rcases Map.put_inv hr h with ⟨rfl, rfl⟩ | ⟨h0, _⟩
    · exact .inr ⟨Nat.le_refl _, by rw [size_push]; omega, .inl (Nat.le_refl _)⟩
    · exact .inl h0

/-- A new row of one's own: its first cells are cs, the others spare. -/
theorem Step.alloc {m : Map} {H : AHeap} {w : World} (hr : Rel m H w) (hf : m H.size = none) (e : Nat) (cs : List Value) (c : Array Value) (t : TypeId) (hl : cs.length ≤ c.size) (hc : VRelL m cs (c.toList.take cs.length)) :
    Step m H w (m.put H.size ⟨w.heap.size, 0, e, c.size⟩) (H.push (.rw e cs)) (w.alloc (.cells c t)) := by
  refine Step.push hr hf _ _ e c.size (fun _ _ h => by cases h) (fun e' cs' h => ?_) (fun _ h => by cases h)
  cases h
  refine ⟨rfl, hl, fun j hj => ?_, fun j hj => ?_⟩
  · refine ⟨c.getD j undef, ?_, ?_⟩
    · rw [Nat.zero_add, World.cell?_alloc_new]
      have : j < c.size := by omega
      simp [Array.getD_eq_getD_getElem?, this]
    · rw [array_getD_list]
      have := hc.2 j hj
      have e : (c.toList.take cs.length).getD j undef = c.toList.getD j undef := by
        simp only [List.getD_eq_getElem?_getD, List.getElem?_take, if_pos hj]
      rw [e] at this
      exact this
  · rw [Nat.zero_add, World.cell?_alloc_new]
    simp [hj]

/-- A new map. -/
theorem Step.newMap {m : Map} {H : AHeap} {w : World} (hr : Rel m H w) (hf : m H.size = none) :
    Step m H w (m.put H.size ⟨w.heap.size, 0, 0, 0⟩) (H.push (.mp [])) (w.alloc (.map #[] 0)) :=
  Step.push hr hf _ _ 0 0 (fun _ _ h => by cases h) (fun _ _ h => by cases h) (fun es h => by cases h; exact ⟨#[], 0, rfl, rfl, rfl, fun j k v hj => by simp at hj⟩)

theorem splice_length (vs : List Value) : ∀ (cs : List Value) (off : Nat), (splice cs off vs).length = cs.length := by
  induction vs with
  | nil => intro cs off; rfl
  | cons v r ih => intro cs off; simp [splice, ih]

theorem splice_getD (vs : List Value) : ∀ (cs : List Value) (off j : Nat), off + vs.length ≤ cs.length →
    (splice cs off vs).getD j undef = if off ≤ j ∧ j < off + vs.length then vs.getD (j - off) undef else cs.getD j undef := by
  induction vs with
  | nil => intro cs off j _; simp [splice]; intro h1 h2; omega
  | cons v r ih =>
    intro cs off j h
    simp only [splice]
    rw [ih _ _ _ (by simp at h ⊢; omega)]
    by_cases h1 : off + 1 ≤ j ∧ j < off + 1 + r.length
    · rw [if_pos h1, if_pos (by simp; omega)]
      obtain ⟨k, rfl⟩ : ∃ k, j = off + 1 + k := ⟨j - (off + 1), by omega⟩
      rw [show off + 1 + k - (off + 1) = k by omega, show off + 1 + k - off = k + 1 by omega]
      simp
    · rw [if_neg h1]
      by_cases h2 : j = off
      · subst h2
        rw [if_pos (by simp)]
        simp at h
        have : j < cs.length := by omega
        simp [this]
      · rw [if_neg (by simp; omega)]
        simp only [List.getD_eq_getElem?_getD]
        rw [List.getElem?_set_ne (by omega)]

theorem heap_setCells_ne (b : Nat) (k : Nat) (hk : k ≠ b) : ∀ (vs : List Value) (o : Nat) (w : World), (w.setCells b o vs).heap[k]? = w.heap[k]?
  | [], _, _ => rfl
  | v :: r, o, w => by rw [World.setCells, heap_setCells_ne b k hk r, Go.RowKit.Below.heap_setCell _ _ _ _ hk]
theorem size_setCells (b : Nat) : ∀ (vs : List Value) (o : Nat) (w : World), (w.setCells b o vs).heap.size = w.heap.size
  | [], _, _ => rfl
  | v :: r, o, w => by rw [World.setCells, size_setCells b r, World.size_setCell]
theorem setCells_rest (b : Nat) : ∀ (vs : List Value) (o : Nat) (w : World), (w.setCells b o vs).os = w.os ∧ (w.setCells b o vs).tape = w.tape ∧ (w.setCells b o vs).output = w.output
  | [], _, _ => ⟨rfl, rfl, rfl⟩
  | v :: r, o, w => by rw [World.setCells]; exact setCells_rest b r (o + 1) _


/-- Object id is written (its block alone is), or gives way to a new one in its block. What must be shown: of the object(s) in that block. -/
theorem Step.write {m : Map} {H : AHeap} {w w' : World} (hr : Rel m H w) {id : Nat} {l : Loc} (hm : m id = some l) (hhot : H.hot id) (o : AObj)
    (hk : ∀ k, k ≠ l.blk → w'.heap[k]? = w.heap[k]?) (hsz : w'.heap.size = w.heap.size) (e1 : w'.os = w.os) (e2 : w'.tape = w.tape) (e3 : w'.output = w.output)
    (hro : ∀ e cs, o ≠ .ro e cs)
    (hrw : ∀ e cs, o = .rw e cs → l.esz = e ∧ cs.length ≤ l.lim ∧ (∀ j, j < cs.length → ∃ v', w'.cell? ⟨l.blk, l.at_ + j, none⟩ = some v' ∧ VRel m (cs.getD j undef) v') ∧
      ∀ j, j < l.lim → (w'.cell? ⟨l.blk, l.at_ + j, none⟩).isSome = true ∧ w'.frozen? ⟨l.blk, l.at_ + j, none⟩ = false)
    (hmp : ∀ es, o = .mp es → ∃ es' clk, w'.heap[l.blk]? = some (.map es' clk) ∧ MRel m es es' clk) :
    Step m H w m (H.set id o) w' := by
  have hid : id < H.size := lt_of_hot hhot
  have hcell : ∀ b j, b ≠ l.blk → w'.cell? ⟨b, j, none⟩ = w.cell? ⟨b, j, none⟩ := fun b j hb => World.cell?_of_block (hk b hb)
  have hfroz : ∀ b j, b ≠ l.blk → w'.frozen? ⟨b, j, none⟩ = w.frozen? ⟨b, j, none⟩ := fun b j hb => World.frozen?_of_block (hk b hb)
  have other : ∀ id' l', m id' = some l' → id' ≠ id → H.get id' ≠ .dead → l'.blk ≠ l.blk := by
    intro id' l' h hne hd e
    exact hd (hr.apart id id' l l' hm h e.symm (Ne.symm hne) hhot)
  refine ⟨⟨?_, ?_, ?_, ?_, ?_⟩, fun _ _ h => h, fun _ _ h => .inl h, ?_, by rw [hsz]; exact Nat.le_refl _, e1, e2, e3, AExt.set H id _ hhot⟩
  · intro id' l' h
    rw [hsz]
    exact hr.dom id' l' h
  · intro id' l' e' cs' h hg'
    by_cases e : id' = id
    · subst e; rw [get_set_same H _ _ hid] at hg'; exact absurd hg' (hro _ _)
    · rw [get_set_ne H _ _ _ (Ne.symm e)] at hg'
      obtain ⟨a1, a2⟩ := hr.ro id' l' e' cs' h hg'
      have hb := other id' l' h e (by rw [hg']; simp)
      exact ⟨a1, fun j hj => let ⟨v', b1, b2⟩ := a2 j hj; ⟨v', (hcell _ _ hb).trans b1, b2⟩⟩
  · intro id' l' e' cs' h hg'
    by_cases e : id' = id
    · subst e; rw [get_set_same H _ _ hid] at hg'
      rw [hm] at h; cases h
      exact hrw _ _ hg'
    · rw [get_set_ne H _ _ _ (Ne.symm e)] at hg'
      obtain ⟨a1, a2, a3, a4⟩ := hr.rw id' l' e' cs' h hg'
      have hb := other id' l' h e (by rw [hg']; simp)
      exact ⟨a1, a2, fun j hj => let ⟨v', b1, b2⟩ := a3 j hj; ⟨v', (hcell _ _ hb).trans b1, b2⟩, fun j hj => by rw [hcell _ _ hb, hfroz _ _ hb]; exact a4 j hj⟩
  · intro id' l' es h hg'
    by_cases e : id' = id
    · subst e; rw [get_set_same H _ _ hid] at hg'
      rw [hm] at h; cases h
      exact hmp _ hg'
    · rw [get_set_ne H _ _ _ (Ne.symm e)] at hg'
      obtain ⟨es', clk, h4, h5⟩ := hr.mp id' l' es h hg'
      exact ⟨es', clk, by rw [hk _ (other id' l' h e (by rw [hg']; simp))]; exact h4, h5⟩
  · intro i i' l1 l2 h h' he hne hh
    have hi : H.hot i := by
      by_cases e : i = id
      · rw [e]; exact hhot
      · rw [AHeap.hot, get_set_ne H _ _ _ (Ne.symm e)] at hh; exact hh
    have hd := hr.apart i i' l1 l2 h h' he hne hi
    have : i' ≠ id := by intro e; subst e; rw [AHeap.hot, hd] at hhot; exact hhot
    rw [get_set_ne H _ _ _ (Ne.symm this)]; exact hd
  · intro b' hb' hn
    exact hk b' (fun e => hn id l hm e.symm hhot)

/-- Cells of an object of one's own are written. -/
theorem Step.cells {m : Map} {H : AHeap} {w : World} (hr : Rel m H w) {id e : Nat} {l : Loc} {cs : List Value} (hm : m id = some l) (hg : H.get id = .rw e cs)
    (off : Nat) (vs vs' : List Value) (hv : VRelL m vs vs') (hl : off + vs.length ≤ cs.length) :
    Step m H w m (H.set id (.rw e (splice cs off vs))) (w.setCells l.blk (l.at_ + off) vs') := by
  have hhot : H.hot id := by rw [AHeap.hot, hg]; trivial
  obtain ⟨a1, a2, a3, a4⟩ := hr.rw id l e cs hm hg
  have cellsIn : ∀ j, j < vs'.length → (w.cell? ⟨l.blk, l.at_ + off + j, none⟩).isSome = true := by
    intro j hj
    have := (a4 (off + j) (by have := hv.1; omega)).1
    rwa [← Nat.add_assoc] at this
  obtain ⟨e1, e2, e3⟩ := setCells_rest l.blk vs' (l.at_ + off) w
  refine Step.write hr hm hhot _ (fun k hk => heap_setCells_ne _ _ hk _ _ _) (size_setCells _ _ _ _) e1 e2 e3 (fun _ _ h => by cases h) (fun e' cs' h => ?_) (fun _ h => by cases h)
  cases h
  refine ⟨a1, by rw [splice_length]; exact a2, fun j hj => ?_, fun j hj => ⟨?_, by rw [World.frozen?_setCells]; exact (a4 j hj).2⟩⟩
  · rw [splice_length] at hj
    rw [splice_getD _ _ _ _ hl]
    by_cases hin : off ≤ j ∧ j < off + vs.length
    · obtain ⟨k, rfl⟩ : ∃ k, j = off + k := ⟨j - off, by omega⟩
      have hk : k < vs'.length := by have := hv.1; omega
      refine ⟨vs'[k], ?_, ?_⟩
      · rw [← Nat.add_assoc]; exact World.cell?_setCells_in _ vs' _ w cellsIn k hk
      · rw [if_pos hin, show off + k - off = k by omega]
        have := hv.2 k (by have := hv.1; omega)
        have e : vs'.getD k undef = vs'[k] := by simp [List.getD_eq_getElem?_getD, hk]
        rw [e] at this
        exact this
    · rw [if_neg hin]
      obtain ⟨v', b1, b2⟩ := a3 j hj
      refine ⟨v', ?_, b2⟩
      rw [World.cell?_setCells_out _ vs' _ w _ (fun _ _ => by have := hv.1; simp; omega)]
      exact b1
  · by_cases hin : off ≤ j ∧ j < off + vs'.length
    · obtain ⟨k, rfl⟩ : ∃ k, j = off + k := ⟨j - off, by omega⟩
      rw [← Nat.add_assoc, World.cell?_setCells_in _ vs' _ w cellsIn k (by omega)]; rfl
    · rw [World.cell?_setCells_out _ vs' _ w _ (fun _ _ => by simp; omega)]
      exact (a4 j hj).1

theorem Rel.adopt {m : Map} {H : AHeap} {w : World} (hr : Rel m H w) (hf : m H.size = none) (loc : Loc) (cs : List Value) (hb : loc.blk < w.heap.size)
    (hdead : ∀ id l, m id = some l → l.blk = loc.blk → H.get id = .dead) (hlen : cs.length ≤ loc.lim)
    (hcells : ∀ j, j < cs.length → ∃ v', w.cell? ⟨loc.blk, loc.at_ + j, none⟩ = some v' ∧ VRel m (cs.getD j undef) v')
    (hroom : ∀ j, j < loc.lim → (w.cell? ⟨loc.blk, loc.at_ + j, none⟩).isSome = true ∧ w.frozen? ⟨loc.blk, loc.at_ + j, none⟩ = false) :
    Rel (m.put H.size loc) (H.push (.rw loc.esz cs)) w := by
  have old := Map.put_old hf loc
  refine ⟨?_, ?_, ?_, ?_, ?_⟩
  · intro id l h
    rcases Map.put_inv hr h with ⟨rfl, rfl⟩ | ⟨_, h1, h2⟩
    · exact hb
    · omega
  · intro id l e' cs' h hg
    rcases Map.put_inv hr h with ⟨rfl, rfl⟩ | ⟨h0, h1, h2⟩
    · rw [get_push_same] at hg; cases hg
    · rw [get_push_ne H _ id h1] at hg
      obtain ⟨a1, a2⟩ := hr.ro id l e' cs' h0 hg
      exact ⟨a1, fun j hj => let ⟨v', b1, b2⟩ := a2 j hj; ⟨v', b1, b2.mono old⟩⟩
  · intro id l e' cs' h hg
    rcases Map.put_inv hr h with ⟨rfl, rfl⟩ | ⟨h0, h1, h2⟩
    · rw [get_push_same] at hg
      cases hg
      exact ⟨rfl, hlen, fun j hj => let ⟨v', b1, b2⟩ := hcells j hj; ⟨v', b1, b2.mono old⟩, hroom⟩
    · rw [get_push_ne H _ id h1] at hg
      obtain ⟨a1, a2, a3, a4⟩ := hr.rw id l e' cs' h0 hg
      exact ⟨a1, a2, fun j hj => let ⟨v', b1, b2⟩ := a3 j hj; ⟨v', b1, b2.mono old⟩, a4⟩
  · intro id l es h hg
    rcases Map.put_inv hr h with ⟨rfl, rfl⟩ | ⟨h0, h1, h2⟩
    · rw [get_push_same] at hg; cases hg
    · rw [get_push_ne H _ id h1] at hg
      obtain ⟨es', clk, h4, h5, h6, h7⟩ := hr.mp id l es h0 hg
      exact ⟨es', clk, h4, h5, h6, fun j k v hj => let ⟨v', a1, a2⟩ := h7 j k v hj; ⟨v', a1, a2.mono old⟩⟩
  · intro id id' l l' h h' he hne hh
    rcases Map.put_inv hr h with ⟨rfl, rfl⟩ | ⟨h0, h1, h2⟩ <;> rcases Map.put_inv hr h' with ⟨rfl, rfl⟩ | ⟨h0', h1', h2'⟩
    · exact absurd rfl hne
    · rw [get_push_ne H _ id' h1']; exact hdead id' l' h0' he.symm
    · have := hdead id l h0 he
      rw [AHeap.hot, get_push_ne H _ id h1, this] at hh; exact hh.elim
    · rw [get_push_ne H _ id' h1']
      exact hr.apart id id' l l' h0 h0' he hne (by rw [AHeap.hot, get_push_ne H _ id h1] at hh; exact hh)

/-- An append in place: the row gives way to a longer one in its block. -/
theorem Step.grow {m : Map} {H : AHeap} {w : World} (hr : Rel m H w) (hf : m H.size = none) {id e : Nat} {l : Loc} {cs : List Value} (hm : m id = some l) (hg : H.get id = .rw e cs)
    (off k : Nat) (vs vs' : List Value) (hk : off + k ≤ cs.length) (hv : VRelL m vs vs') (hroom : off + k + vs.length ≤ l.lim) :
    Step m H w (m.put H.size ⟨l.blk, l.at_ + off, e, l.lim - off⟩) ((H.set id .dead).push (.rw e ((cs.drop off).take k ++ vs))) (w.setCells l.blk (l.at_ + off + k) vs') := by
  have hhot : H.hot id := by rw [AHeap.hot, hg]; trivial
  have hid : id < H.size := lt_of_hot hhot
  obtain ⟨a1, a2, a3, a4⟩ := hr.rw id l e cs hm hg
  have cellsIn : ∀ j, j < vs'.length → (w.cell? ⟨l.blk, l.at_ + off + k + j, none⟩).isSome = true := by
    intro j hj
    have := (a4 (off + k + j) (by have := hv.1; omega)).1
    rwa [← Nat.add_assoc, ← Nat.add_assoc] at this
  obtain ⟨e1, e2, e3⟩ := setCells_rest l.blk vs' (l.at_ + off + k) w
  have S := Step.write (w' := w.setCells l.blk (l.at_ + off + k) vs') hr hm hhot .dead (fun k hk => heap_setCells_ne _ _ hk _ _ _) (size_setCells _ _ _ _) e1 e2 e3 (fun _ _ h => by cases h) (fun e' cs' h => by cases h) (fun _ h => by cases h)
  have R := Rel.adopt S.rel (by rw [size_set]; exact hf) ⟨l.blk, l.at_ + off, e, l.lim - off⟩ ((cs.drop off).take k ++ vs) (show l.blk < _ by rw [size_setCells]; exact hr.dom _ _ hm)
    (fun id' l' h he => by
      by_cases e : id' = id
      · subst e; exact get_set_same H _ _ hid
      · rw [get_set_ne H _ _ _ (Ne.symm e)]; exact hr.apart id id' l l' hm h he.symm (Ne.symm e) hhot)
    (by simp; omega)
    (fun j hj => by
      simp at hj
      have hmin : min k (cs.length - off) = k := by omega
      rw [hmin] at hj
      by_cases hjk : j < k
      · obtain ⟨v', b1, b2⟩ := a3 (off + j) (by omega)
        refine ⟨v', ?_, ?_⟩
        · rw [World.cell?_setCells_out _ vs' _ w _ (fun _ _ => by simp; omega)]
          rw [← Nat.add_assoc] at b1; exact b1
        · have e : ((cs.drop off).take k ++ vs).getD j undef = cs.getD (off + j) undef := by
            simp only [List.getD_eq_getElem?_getD]
            rw [List.getElem?_append_left (by simp; omega), List.getElem?_take, if_pos hjk, List.getElem?_drop]
          rw [e]; exact b2
      · obtain ⟨i, rfl⟩ : ∃ i, j = k + i := ⟨j - k, by omega⟩
        have hi : i < vs'.length := by have := hv.1; omega
        refine ⟨vs'[i], ?_, ?_⟩
        · have := World.cell?_setCells_in l.blk vs' (l.at_ + off + k) w cellsIn i hi
          rw [show l.at_ + off + k + i = l.at_ + off + (k + i) by omega] at this
          exact this
        · have e : ((cs.drop off).take k ++ vs).getD (k + i) undef = vs.getD i undef := by
            simp only [List.getD_eq_getElem?_getD]
            rw [List.getElem?_append_right (by simp; omega)]
            congr 1
            simp
            congr 1
            omega
          rw [e]
          have := hv.2 i (by have := hv.1; omega)
          have e : vs'.getD i undef = vs'[i] := by simp [List.getD_eq_getElem?_getD, hi]
          rw [e] at this
          exact this)
    (fun j hj => by
      simp only at hj
      refine ⟨?_, by rw [World.frozen?_setCells]; have := (a4 (off + j) (by omega)).2; rwa [← Nat.add_assoc] at this⟩
      by_cases hin : k ≤ j ∧ j < k + vs'.length
      · obtain ⟨i, rfl⟩ : ∃ i, j = k + i := ⟨j - k, by omega⟩
        have := World.cell?_setCells_in l.blk vs' (l.at_ + off + k) w cellsIn i (by omega)
        rw [show l.at_ + off + k + i = l.at_ + off + (k + i) by omega] at this
        show (World.cell? _ ⟨l.blk, l.at_ + off + (k + i), none⟩).isSome = true
        rw [this]; rfl
      · have := (a4 (off + j) (by omega)).1
        rw [← Nat.add_assoc] at this
        show (World.cell? _ ⟨l.blk, l.at_ + off + j, none⟩).isSome = true
        rw [World.cell?_setCells_out _ vs' _ w _ (fun _ _ => by simp; omega)]
        exact this)
  rw [size_set] at R
  refine ⟨R, Map.put_old hf _, fun id' x h => ?_, S.kept, S.size, e1, e2, e3, S.aext.trans (AKeep.push _ _).ext⟩
  rcases Map.put_inv hr h with ⟨rfl, rfl⟩ | ⟨h0, _⟩
  · exact .inr ⟨Nat.le_refl _, by rw [size_push, size_set]; omega, .inr ⟨id, l, hm, rfl, hhot⟩⟩
  · exact .inl h0

end Go.Ah

/- What each operation does to the abstract heap: aOp. -/
namespace Go.Ah

def aInt (op : BinOp) (k : IntKind) (a b : Int) (K : Value → Prop) : Prop :=
  match op with
  | .add => K (.int k (k.wrap (a + b)))
  | .sub => K (.int k (k.wrap (a - b)))
  | .mul => K (.int k (k.wrap (a * b)))
  | .quo => b ≠ 0 ∧ K (.int k (k.wrap (a.tdiv b)))
  | .rem => b ≠ 0 ∧ K (.int k (a.tmod b))
  | .and => K (.int k (k.wrap (BitVec.ofInt k.bits a &&& BitVec.ofInt k.bits b).toNat))
  | .or => K (.int k (k.wrap (BitVec.ofInt k.bits a ||| BitVec.ofInt k.bits b).toNat))
  | .xor => K (.int k (k.wrap (BitVec.ofInt k.bits a ^^^ BitVec.ofInt k.bits b).toNat))
  | .andNot => K (.int k (k.wrap (BitVec.ofInt k.bits a &&& ~~~ BitVec.ofInt k.bits b).toNat))
  | .eql => K (.bool (a == b))
  | .neq => K (.bool (a != b))
  | .lss => K (.bool (a < b))
  | .leq => K (.bool (a ≤ b))
  | .gtr => K (.bool (a > b))
  | .geq => K (.bool (a ≥ b))
  | _ => False

def aStr (op : BinOp) (a b : ByteArray) (K : Value → Prop) : Prop :=
  match op with
  | .add => a.size + b.size ≤ 4611686018427387904 ∧ K (.string (a ++ b))
  | .eql => K (.bool (a.toList == b.toList))
  | .neq => K (.bool !(a.toList == b.toList))
  | .lss => K (.bool (Op.bytesLess a.toList b.toList))
  | .leq => K (.bool (Op.bytesLess a.toList b.toList || a.toList == b.toList))
  | .gtr => K (.bool !(Op.bytesLess a.toList b.toList || a.toList == b.toList))
  | .geq => K (.bool !(Op.bytesLess a.toList b.toList))
  | _ => False

def isNilV : Value → Option Bool
  | .pointer a => some a.isNone
  | .slice a _ _ => some a.isNone
  | .map r => some r.isNone
  | .nilFunc => some true
  | .func _ _ _ => some false
  | .nilIface => some true
  | .iface _ _ => some false
  | _ => none

/-- '==' where one side is nil, or both are bools. -/
def aEq (P : Program) (t : TypeId) (c : Bool) (x y : Value) (K : Bool → Prop) : Prop :=
  match P.underlying t, x, y with
  | some .bool, .bool a, .bool b => K (a == b)
  | some (.slice _), .slice a _ _, .slice none _ _ => K a.isNone
  | some (.slice _), .slice none _ _, .slice (some _) _ _ => K false
  | some (.pointer _), .pointer a, .pointer none => K a.isNone
  | some (.pointer _), .pointer none, .pointer (some _) => K false
  | some (.map _ _), .map a, .map none => K a.isNone
  | some (.func _ _ _), .nilFunc, .nilFunc => K true
  | some (.func _ _ _), .func _ _ _, .nilFunc => K false
  | some (.interface _), .nilIface, .nilIface => c = true ∧ K true
  | some (.interface _), .iface _ _, .nilIface => K false
  | _, _, _ => False

def isConstO : Operand → Bool
  | .const _ => true
  | _ => false

def aBin (P : Program) (op : BinOp) (t : TypeId) (c : Bool) (x y : Value) (K : Value → Prop) : Prop :=
  match op, x, y with
  | .shl, .int k a, .int _ b => 0 ≤ b ∧ K (.int k (k.wrap (a * 2 ^ (min b.toNat k.bits))))
  | .shr, .int k a, .int _ b => 0 ≤ b ∧ K (.int k (a.fdiv (2 ^ (min b.toNat k.bits))))
  | op, .int k a, .int k' b => k = k' ∧ aInt op k a b K
  | op, .string a, .string b => aStr op a b K
  | .eql, x, y => aEq P t c x y fun b => K (.bool b)
  | .neq, x, y => aEq P t c x y fun b => K (.bool !b)
  | _, _, _ => False

def aUn (op : UnOp) (x : Value) (K : Value → Prop) : Prop :=
  match op, x with
  | .not, .bool b => K (.bool !b)
  | .neg, .int k n => K (.int k (k.wrap (0 - n)))
  | _, _ => False

def aConv (P : Program) (src dst : TypeId) (x : Value) (K : Value → Prop) : Prop :=
  match P.underlying src, P.underlying dst, x with
  | some _, some (.int k), .int _ n => K (.int k (k.wrap n))
  | some _, some .string, .string s => K (.string s)
  | _, _, _ => False

/-- The places of a struct type's fields. -/
def tPlaces (P : Program) (t : TypeId) : Option (List (Nat × Nat)) := match P.underlying t with
  | some (.struct fs) => fs.toList.mapM fun f => (P.info? f.type).map fun i => (f.offset, i.size)
  | _ => none

def aFill (place : Nat → Option (Nat × Nat)) (K : List Value → Prop) : List (Nat × Value) → List Value → Prop
  | [], cs => K cs
  | (i, v) :: r, cs => match place i with
    | some (off, n) => v.cells.size = n ∧ off + n ≤ cs.length ∧ aFill place K r (splice cs off v.cells.toList)
    | none => False

def repCells (z : List Value) (n : Nat) : List Value := (List.replicate n z).flatten

def aIndexAddr (P : Program) (t : TypeId) (x i : Value) (K : Value → Prop) : Prop :=
  match P.underlying t, x, i with
  | some (.slice e), .slice (some ⟨id, off, none⟩) len _, .int _ n => match tSz P e with
    | some sz => 0 ≤ n ∧ n < len ∧ K (.pointer (some ⟨id, off + n.toNat * sz, none⟩))
    | none => False
  | some (.array len e), .pointer (some ⟨id, off, none⟩), .int _ n => match tSz P e with
    | some sz => 0 ≤ n ∧ n < len ∧ K (.pointer (some ⟨id, off + n.toNat * sz, none⟩))
    | none => False
  | _, _, _ => False

def byteAt (s : ByteArray) (i : Int) : Int := ((s.data.toList.getD i.toNat 0).toNat : Int)

def aIndex (P : Program) (t : TypeId) (x i : Value) (K : Value → Prop) : Prop :=
  match P.underlying t, x, i with
  | some .string, .string s, .int _ n => 0 ≤ n ∧ n < s.size ∧ K (.int .u8 (byteAt s n))
  | some (.array len e), .agg cs, .int _ n => match tVar P e with
    | some x => 0 ≤ n ∧ n < len ∧ cellsAt cs.toList (n.toNat * x.1) x K
    | none => False
  | _, _, _ => False

def intOr (d : Int) : Option Value → Option Int
  | none => some d
  | some (.int _ n) => some n
  | _ => none

def aSlice (P : Program) (H : AHeap) (t : TypeId) (x : Value) (lo hi mx : Option Value) (K : Value → Prop) : Prop :=
  match P.underlying t, x with
  | some .string, .string s => mx = none ∧ match intOr 0 lo, intOr s.size hi with
    | some l, some h => 0 ≤ l ∧ l ≤ h ∧ h ≤ s.size ∧ K (.string (s.extract l.toNat h.toNat))
    | _, _ => False
  | some (.slice e), .slice none 0 0 => (tSz P e).isSome = true ∧ intOr 0 lo = some 0 ∧ intOr 0 hi = some 0 ∧ mx = none ∧ K (.slice none 0 0)
  | some (.slice e), .slice (some ⟨id, off, none⟩) len cap => match tSz P e, intOr 0 lo, intOr len hi with
    | some sz, some l, some h => (H.get id).esz? = some sz ∧ 0 ≤ l ∧ l ≤ h ∧ match mx with
      | none => h ≤ len ∧ K (.slice (some ⟨id, off + l.toNat * sz, none⟩) (h - l).toNat (if cap < unk then cap - l.toNat else cap))
      | some (.int _ m) => hi.isSome = true ∧ h ≤ m ∧ m ≤ len ∧ K (.slice (some ⟨id, off + l.toNat * sz, none⟩) (h - l).toNat (m - l).toNat)
      | _ => False
    | _, _, _ => False
  | _, _ => False

/-- The place of a key among a map's entries. -/
def mfind (d : TypeDesc) (k : Value) : List (Value × Value) → Nat → Option (Option (Nat × Value))
  | [], _ => some none
  | (k', v) :: r, i => match Instr.sameNow d k k' with
    | some true => some (some (i, v))
    | some false => mfind d k r (i + 1)
    | none => none

def scalarD : TypeDesc → Bool
  | .int _ | .string | .bool => true
  | _ => false

def aLookup (P : Program) (H : AHeap) (t : TypeId) (x k : Value) (ok : Bool) (K : Value → Prop) : Prop :=
  match P.underlying t, x with
  | some (.map kt et), .map (some id) => match P.underlying kt, tZero P et, H.get id with
    | some d, some z, .mp es => scalarD d = true ∧ plainV z = true ∧ plainCell k = true ∧ match mfind d k es 0 with
      | some (some (_, v)) => K (if ok then .tuple #[v, .bool true] else v)
      | some none => K (if ok then .tuple #[z, .bool false] else z)
      | none => False
    | _, _, _ => False
  | _, _ => False

def aMapUpdate (P : Program) (H : AHeap) (t : TypeId) (x k v : Value) (K : AHeap → Prop) : Prop :=
  match P.underlying t, x with
  | some (.map kt _), .map (some id) => match P.underlying kt, H.get id with
    | some d, .mp es => scalarD d = true ∧ plainCell k = true ∧ match mfind d k es 0 with
      | some (some (i, _)) => K (H.set id (.mp (es.set i (k, v))))
      | some none => K (H.set id (.mp (es ++ [(k, v)])))
      | none => False
    | _, _ => False
  | _, _ => False

/-- The elements that an append appends, and how many. -/
def aNews (P : Program) (H : AHeap) (t2 : TypeId) (sz : Nat) (x : Value) (K : List Value → Nat → Prop) : Prop :=
  match P.underlying t2, x with
  | some (.slice _), .slice none 0 _ => K [] 0
  | some (.slice _), .slice (some ⟨id, off, none⟩) n _ => match (H.get id).cells? with
    | some cs => off + n * sz ≤ cs.length ∧ K ((cs.drop off).take (n * sz)) n
    | none => False
  | some .string, .string s => sz = 1 ∧ K (s.data.toList.map fun b => .int .u8 b.toNat) s.size
  | _, _ => False

/-- A slice type that can be appended to: its element's cells and bytes. -/
def tApp (P : Program) (t : TypeId) : Option (Nat × Nat) := match tElem P t with
  | some (sz, by_, some z) => if z.cells.size = sz then some (sz, by_) else none
  | _ => none

def aAppend (P : Program) (H : AHeap) (t1 t2 : TypeId) (s x : Value) (K : Value → AHeap → Prop) : Prop :=
  match tApp P t1 with
  | some (sz, by_) => aNews P H t2 sz x fun nc n => match s with
    | .slice none 0 0 => n * by_ ≤ 140737488355328 ∧ n ≤ 9223372036854775807 ∧ if n = 0 then K (.slice none 0 0) H else K (.slice (some ⟨H.size, 0, none⟩) n unk) (H.push (.rw sz nc))
    | .slice (some ⟨id, off, none⟩) len cap => (len + n) * by_ ≤ 140737488355328 ∧ len + n ≤ 9223372036854775807 ∧
      if n = 0 then K (.slice (some ⟨id, off, none⟩) len cap) H
      else if cap < unk then
        if len + n ≤ cap then match H.get id with
          | .rw e cs => nc.all (·.oneCell') = true ∧ off + (len + n) * sz ≤ cs.length ∧ K (.slice (some ⟨id, off, none⟩) (len + n) cap) (H.set id (.rw e (splice cs (off + len * sz) nc)))
          | _ => False
        else match (H.get id).cells? with
          | some cs => off + len * sz ≤ cs.length ∧ K (.slice (some ⟨H.size, 0, none⟩) (len + n) unk) (H.push (.rw sz ((cs.drop off).take (len * sz) ++ nc)))
          | none => False
      else match H.get id with
        | .rw e cs => e = sz ∧ nc.all (·.oneCell') = true ∧ off + len * sz ≤ cs.length ∧
          K (.slice (some ⟨H.size, 0, none⟩) (len + n) unk) ((H.set id .dead).push (.rw sz ((cs.drop off).take (len * sz) ++ nc)))
        | _ => False
    | _ => False
  | _ => False

def aLen (P : Program) (H : AHeap) (t : TypeId) (x : Value) (K : Value → Prop) : Prop :=
  match P.underlying t, x with
  | some .string, .string s => K (.int .i64 s.size)
  | some (.slice _), .slice _ n _ => K (.int .i64 n)
  | some (.array n _), _ => K (.int .i64 n)
  | some (.map _ _), .map none => K (.int .i64 0)
  | some (.map _ _), .map (some id) => match H.get id with
    | .mp es => K (.int .i64 es.length)
    | _ => False
  | _, _ => False

def aMaxMin (mx : Bool) : List Value → (Value → Prop) → Prop
  | [.int k x, .int k' y], K => k = k' ∧ K (.int k (if mx then max x y else min x y))
  | _, _ => False

def aCopy (P : Program) (H : AHeap) (t1 t2 : TypeId) (s x : Value) (K : Value → AHeap → Prop) : Prop :=
  match tElem P t1, s with
  | some (sz, _, _), .slice (some ⟨id, off, none⟩) dl _ => aNews P H t2 sz x fun nc n => match H.get id with
    | .rw e cs => nc.all (·.oneCell') = true ∧ sz = 1 ∧ off + dl ≤ cs.length ∧ K (.int .i64 (Nat.min n dl)) (H.set id (.rw e (splice cs off (nc.take (Nat.min n dl)))))
    | _ => False
  | _, _ => False

def aBuiltin (P : Program) (H : AHeap) (b : Builtin) (ts : List TypeId) (xs : List Value) (K : Value → AHeap → Prop) : Prop :=
  match b, ts, xs with
  | .len, [t], [x] => aLen P H t x fun v => K v H
  | .append, [t1, t2], [s, x] => aAppend P H t1 t2 s x K
  | .max, _, xs => aMaxMin true xs fun v => K v H
  | .min, _, xs => aMaxMin false xs fun v => K v H
  | _, _, _ => False

def aMake (P : Program) (H : AHeap) (t : TypeId) (l c : Value) (K : Value → AHeap → Prop) : Prop :=
  match tElem P t, l, c with
  | some (sz, by_, some z), .int .i64 n, .int .i64 k => 0 ≤ n ∧ n ≤ k ∧ k * by_ ≤ 140737488355328 ∧ k < unk ∧ z.cells.size = sz ∧ 0 < sz ∧ plainV z = true ∧
      K (.slice (some ⟨H.size, 0, none⟩) n.toNat k.toNat) (H.push (.rw sz (repCells z.cells.toList k.toNat)))
  | _, _, _ => False

def aOp (P : Program) (σ : Slots) (H : AHeap) (o : Oper) (K : Value → AHeap → Prop) : Prop :=
  match o.op with
  | .move x => K (evO σ x) H
  | .assign x => K (evO σ x) H
  | .pick c a b => match evO σ c with
    | .bool t => K (if t then evO σ a else evO σ b) H
    | _ => False
  | .alloc e => match tZero P e with
    | some z => plainV z = true ∧ K (.pointer (some ⟨H.size, 0, none⟩)) (H.push (.rw z.cells.size z.cells.toList))
    | none => False
  | .box _ x => K (.pointer (some ⟨H.size, 0, none⟩)) (H.push (.rw (evO σ x).cells.size (evO σ x).cells.toList))
  | .build t parts => match P.underlying t with
    | some (.struct _) => match tPlaces P t, tZero P t with
      | some ps, some z => plainV z = true ∧ aFill (fun i => ps[i]?) (fun cs => K (.agg cs.toArray) H) (parts.toList.map fun p => (p.1, evO σ p.2)) z.cells.toList
      | _, _ => False
    | some (.array _ e) => match tSz P e, tZero P t with
      | some n, some z => plainV z = true ∧ aFill (fun i => some (i * n, n)) (fun cs => K (.agg cs.toArray) H) (parts.toList.map fun p => (p.1, evO σ p.2)) z.cells.toList
      | _, _ => False
    | _ => False
  | .buildSlice t len parts => match tElem P t with
    | some (sz, _, some z) => plainV z = true ∧ z.cells.size = sz ∧ 0 < sz ∧ len * sz ≤ 16777216 ∧
        aFill (fun i => some (i * sz, sz)) (fun cs => K (.slice (some ⟨H.size, 0, none⟩) len len) (H.push (.rw sz cs))) (parts.toList.map fun p => (p.1, evO σ p.2)) (repCells z.cells.toList len)
    | _ => False
  | .load t a => aLoad P H t (evO σ a) fun v => K v H
  | .store t a x => aStore P H t (evO σ a) (evO σ x) fun H' => K undef H'
  | .nilCheck x => match evO σ x with
    | .pointer (some a) => K (.pointer (some a)) H
    | .func (.func f) xs ys => K (.func (.func f) xs ys) H
    | _ => False
  | .binOp op t x y _ => aBin P op t (isConstO x || isConstO y) (evO σ x) (evO σ y) fun v => K v H
  | .unOp op _ x => aUn op (evO σ x) fun v => K v H
  | .convert src dst x => aConv P src dst (evO σ x) fun v => K v H
  | .makeInterface t x => match P.underlying t with
    | some (.interface _) => False
    | some _ => K (.iface t (evO σ x)) H
    | none => False
  | .makeFunc fn first captured => K (.func fn (first.map (evO σ)) (captured.map (evO σ))) H
  | .makeMap _ none => K (.map (some H.size)) (H.push (.mp []))
  | .makeSlice t l c => aMake P H t (evO σ l) (evO σ c) K
  | .slice t x lo hi mx => aSlice P H t (evO σ x) (lo.map (evO σ)) (hi.map (evO σ)) (mx.map (evO σ)) fun v => K v H
  | .fieldAddr s x f => match evO σ x, tField P s f with
    | .pointer (some ⟨id, off, none⟩), some (fo, sz, _) => sz ≠ 0 ∧ K (.pointer (some ⟨id, off + fo, none⟩)) H
    | _, _ => False
  | .field t x f => match evO σ x, tField P t f with
    | .agg cs, some (fo, sz, ag) => cellsAt cs.toList fo (sz, ag) fun v => K v H
    | _, _ => False
  | .indexAddr t x i => aIndexAddr P t (evO σ x) (evO σ i) fun v => K v H
  | .index t x i => aIndex P t (evO σ x) (evO σ i) fun v => K v H
  | .lookup t x k ok => aLookup P H t (evO σ x) (evO σ k) ok fun v => K v H
  | .mapUpdate t x k v => aMapUpdate P H t (evO σ x) (evO σ k) (evO σ v) fun H' => K undef H'
  | .extract x i => match evO σ x with
    | .tuple vs => i < vs.size ∧ K (vs.getD i undef) H
    | _ => False
  | .call c => match c.callee with
    | .builtin b => aBuiltin P H b c.argTypes.toList (c.args.toList.map (evO σ)) K
    | .value f => match evO σ f with
      | .func (.func g) first captured => ∃ r H', CallsA P g (first ++ c.args.map (evO σ) ++ captured) H r H' ∧ K r H'
      | _ => False
    | .invoke _ _ => False
  | _ => False

end Go.Ah

/- The model's operations do to the world what aOp does to the abstract heap: the pure ones, reading, writing, building. -/
namespace Go.Ah
variable {P : Program}

theorem VRel.int_inv {m : Map} {k : IntKind} {n : Int} {v : Value} (h : VRel m (.int k n) v) : v = .int k n := by cases h; rfl
theorem VRel.bool_inv {m : Map} {b : Bool} {v : Value} (h : VRel m (.bool b) v) : v = .bool b := by cases h; rfl
theorem VRel.str_inv {m : Map} {s : ByteArray} {v : Value} (h : VRel m (.string s) v) : v = .string s := by cases h; rfl

theorem aInt_sound {op : BinOp} {k : IntKind} {a b : Int} {K : Value → Prop} (h : aInt op k a b K) :
    ∃ v, K v ∧ (∀ m, VRel m v v) ∧ ∀ t w, op ≠ .shl → op ≠ .shr → (binOp op t (.int k a) (.int k b)).run P w = .ok v w := by
  cases op <;> simp only [aInt] at h <;>
  first
  | exact h.elim
  | (refine ⟨_, h, fun m => by constructor, fun t w _ _ => ?_⟩
     simp [binOp, Op.intArith, Op.intBits, Op.intCmp])
  | (refine ⟨_, h.2, fun m => by constructor, fun t w _ _ => ?_⟩
     simp [binOp, Op.intDiv, h.1])

theorem aStr_sound {op : BinOp} {a b : ByteArray} {K : Value → Prop} (h : aStr op a b K) :
    ∃ v, K v ∧ (∀ m, VRel m v v) ∧ ∀ t w, (binOp op t (.string a) (.string b)).run P w = .ok v w := by
  cases op <;> simp only [aStr] at h <;>
  first
  | exact h.elim
  | (refine ⟨_, h, fun m => by constructor, fun t w => ?_⟩
     simp [binOp, Op.stringOp])
  | (refine ⟨_, h.2, fun m => by constructor, fun t w => ?_⟩
     have h1 := h.1
     have : ¬ (9223372036854775807 < ((a.size : Int) + (b.size : Int))) := by omega
     simp [binOp, Op.stringOp, this])

theorem isNone_rel {m : Map} {a : Option Addr} {v : Value} : (VRel m (.pointer a) v → ∃ a', v = .pointer a' ∧ a'.isNone = a.isNone) := by
  intro h; cases h with
  | pnil => exact ⟨_, rfl, rfl⟩
  | ptr h => exact ⟨_, rfl, rfl⟩
theorem isNone_slice {m : Map} {a : Option Addr} {l c : Nat} {v : Value} (h : VRel m (.slice a l c) v) : ∃ a' c', v = .slice a' l c' ∧ a'.isNone = a.isNone := by
  cases h with
  | snil => exact ⟨_, _, rfl, rfl⟩
  | sl h => exact ⟨_, _, rfl, rfl⟩
theorem isNone_map {m : Map} {a : Option Nat} {v : Value} (h : VRel m (.map a) v) : ∃ a', v = .map a' ∧ a'.isNone = a.isNone := by
  cases h with
  | mnil => exact ⟨_, rfl, rfl⟩
  | map h => exact ⟨_, rfl, rfl⟩

theorem equal_once (t : TypeId) (x y : Value) : Op.equal t x y = Op.equalIn (9999 + 1) t x y := rfl

theorem aEq_sound {t : TypeId} {c : Bool} {x y : Value} {K : Bool → Prop} (h : aEq P t c x y K) :
    ∃ b, K b ∧ ∀ m w x' y', VRel m x x' → VRel m y y' → (Op.equal t x' y').run P w = .ok b w ∧ ((∀ a b, ¬ (x' = .agg a ∧ y' = .agg b)) ∧ (x' = .nilIface → y' = .nilIface → c = true)) := by
  unfold aEq at h
  split at h
  · rename_i a b hu
    refine ⟨_, h, fun m w x' y' hx hy => ?_⟩
    cases hx.bool_inv; cases hy.bool_inv
    exact ⟨by rw [equal_once, Op.equalIn]; simp [run_underlying hu], by simp⟩
  · rename_i e a la ca lb cb hu
    refine ⟨_, h, fun m w x' y' hx hy => ?_⟩
    obtain ⟨a', c', rfl, ha⟩ := isNone_slice hx
    obtain ⟨b', d', rfl, hb⟩ := isNone_slice hy
    cases b' with
    | some b' => simp at hb
    | none =>
      refine ⟨?_, by simp⟩
      cases a' with
      | none => rw [equal_once, Op.equalIn]; simp [run_underlying hu, ← ha]
      | some a' => rw [equal_once, Op.equalIn]; simp [run_underlying hu, ← ha]
  · rename_i e la ca b lb cb hu
    refine ⟨_, h, fun m w x' y' hx hy => ?_⟩
    obtain ⟨a', c', rfl, ha⟩ := isNone_slice hx
    obtain ⟨b', d', rfl, hb⟩ := isNone_slice hy
    cases a' with
    | some a' => simp at ha
    | none =>
      cases b' with
      | none => simp at hb
      | some b' => exact ⟨by rw [equal_once, Op.equalIn]; simp [run_underlying hu], by simp⟩
  · rename_i e a hu
    refine ⟨_, h, fun m w x' y' hx hy => ?_⟩
    obtain ⟨a', rfl, ha⟩ := isNone_rel hx
    obtain ⟨b', rfl, hb⟩ := isNone_rel hy
    cases b' with
    | some b' => simp at hb
    | none =>
      refine ⟨?_, by simp⟩
      cases a' with
      | none => rw [equal_once, Op.equalIn]; simp [run_underlying hu, ← ha]
      | some a' => rw [equal_once, Op.equalIn]; simp [run_underlying hu, ← ha]
  · rename_i e b hu
    refine ⟨_, h, fun m w x' y' hx hy => ?_⟩
    obtain ⟨a', rfl, ha⟩ := isNone_rel hx
    obtain ⟨b', rfl, hb⟩ := isNone_rel hy
    cases a' with
    | some a' => simp at ha
    | none =>
      cases b' with
      | none => simp at hb
      | some b' => exact ⟨by rw [equal_once, Op.equalIn]; simp [run_underlying hu], by simp⟩
  · rename_i kt et a hu
    refine ⟨_, h, fun m w x' y' hx hy => ?_⟩
    obtain ⟨a', rfl, ha⟩ := isNone_map hx
    obtain ⟨b', rfl, hb⟩ := isNone_map hy
    cases b' with
    | some b' => simp at hb
    | none =>
      refine ⟨?_, by simp⟩
      cases a' with
      | none => rw [equal_once, Op.equalIn]; simp [run_underlying hu, ← ha]
      | some a' => rw [equal_once, Op.equalIn]; simp [run_underlying hu, ← ha]
  · rename_i hu
    refine ⟨_, h, fun m w x' y' hx hy => ?_⟩
    cases hx; cases hy
    exact ⟨by rw [equal_once, Op.equalIn]; simp [run_underlying hu], by simp⟩
  · rename_i hu
    refine ⟨_, h, fun m w x' y' hx hy => ?_⟩
    cases hx; cases hy
    exact ⟨by rw [equal_once, Op.equalIn]; simp [run_underlying hu], by simp⟩
  · rename_i hu
    refine ⟨_, h.2, fun m w x' y' hx hy => ?_⟩
    cases hx; cases hy
    exact ⟨by rw [equal_once, Op.equalIn]; simp [run_underlying hu], by simp [h.1]⟩
  · rename_i hu
    refine ⟨_, h, fun m w x' y' hx hy => ?_⟩
    cases hx; cases hy
    exact ⟨by rw [equal_once, Op.equalIn]; simp [run_underlying hu], by simp⟩
  · exact h.elim

theorem run_eqGuard {op : BinOp} {t : TypeId} {x y : Operand} {a b : Value} (h1 : ∀ p q, ¬ (a = .agg p ∧ b = .agg q)) (h2 : a = .nilIface → b = .nilIface → (isConstO x || isConstO y) = true) (w : World) :
    (eqGuard op t x y a b).run P w = .ok () w := by
  cases op <;> first
  | rfl
  | (cases a <;> cases b <;> first
     | rfl
     | exact absurd ⟨rfl, rfl⟩ (h1 _ _)
     | (have h3 := h2 rfl rfl
        cases x <;> cases y <;> first | rfl | (simp [isConstO] at h3)))

theorem aBin_sound {op : BinOp} {t : TypeId} {xo yo : Operand} {x y : Value} {K : Value → Prop} (h : aBin P op t (isConstO xo || isConstO yo) x y K) :
    ∃ v, K v ∧ (∀ m, VRel m v v) ∧ ∀ m w x' y', VRel m x x' → VRel m y y' → (do eqGuard op t xo yo x' y'; binOp op t x' y' : Sem Value).run P w = .ok v w := by
  unfold aBin at h
  split at h
  · rename_i k a yk b
    refine ⟨_, h.2, fun m => .int _ _, fun m w x' y' hx hy => ?_⟩
    cases hx.int_inv; cases hy.int_inv
    have : ¬ (b < 0) := by omega
    simp [run_eqGuard (P := P) (op := .shl) (t := t) (x := xo) (y := yo) (a := .int k a) (b := .int yk b) (by simp) (by simp) w, binOp, Op.shift, this]
  · rename_i k a yk b
    refine ⟨_, h.2, fun m => .int _ _, fun m w x' y' hx hy => ?_⟩
    cases hx.int_inv; cases hy.int_inv
    have : ¬ (b < 0) := by omega
    simp [run_eqGuard (P := P) (op := .shr) (t := t) (x := xo) (y := yo) (a := .int k a) (b := .int yk b) (by simp) (by simp) w, binOp, Op.shift, this]
  · rename_i op' k a k' b hn1 hn2
    obtain ⟨rfl, h⟩ := h
    obtain ⟨v, h1, h2, h3⟩ := aInt_sound (P := P) h
    refine ⟨v, h1, h2, fun m w x' y' hx hy => ?_⟩
    cases hx.int_inv; cases hy.int_inv
    have e1 : op ≠ .shl := by intro e; subst e; simp [aInt] at h
    have e2 : op ≠ .shr := by intro e; subst e; simp [aInt] at h
    rw [Sem.run_bind, run_eqGuard (P := P) (a := .int k a) (b := .int k b) (by simp) (by simp) w]
    exact h3 t w e1 e2
  · rename_i op' a b
    obtain ⟨v, h1, h2, h3⟩ := aStr_sound (P := P) h
    refine ⟨v, h1, h2, fun m w x' y' hx hy => ?_⟩
    cases hx.str_inv; cases hy.str_inv
    rw [Sem.run_bind, run_eqGuard (P := P) (a := .string a) (b := .string b) (by simp) (by simp) w]
    exact h3 t w
  · rename_i x y _ _
    obtain ⟨b, h1, h2⟩ := aEq_sound h
    refine ⟨_, h1, fun m => .bool _, fun m w x' y' hx hy => ?_⟩
    obtain ⟨h3, h4, h5⟩ := h2 m w x' y' hx hy
    rw [Sem.run_bind, run_eqGuard (P := P) h4 h5 w]
    have : binOp .eql t x' y' = (do pure (.bool (← Op.equal t x' y'))) := by
      unfold aEq at h
      split at h <;> first | exact h.elim | (cases hx <;> cases hy <;> rfl)
    rw [Result.andThen_ok, this]
    simp [h3]
  · rename_i x y _ _
    obtain ⟨b, h1, h2⟩ := aEq_sound h
    refine ⟨_, h1, fun m => .bool _, fun m w x' y' hx hy => ?_⟩
    obtain ⟨h3, h4, h5⟩ := h2 m w x' y' hx hy
    rw [Sem.run_bind, run_eqGuard (P := P) h4 h5 w]
    have : binOp .neq t x' y' = (do pure (.bool (!(← Op.equal t x' y')))) := by
      unfold aEq at h
      split at h <;> first | exact h.elim | (cases hx <;> cases hy <;> rfl)
    rw [Result.andThen_ok, this]
    simp [h3]
  · exact h.elim

end Go.Ah

/- The model's operations do to the world what aOp does to the abstract heap: stores, slices, elements, maps. -/
namespace Go.Ah
variable {P : Program}

theorem aStore_sound {H : AHeap} {t : TypeId} {p v : Value} {K : AHeap → Prop} (h : aStore P H t p v K) :
    ∃ H', K H' ∧ AExt H H' ∧ ∀ m w p' v', Rel m H w → VRel m p p' → VRel m v v' → ∃ w', (Instr.storeAt t p' v').run P w = .ok () w' ∧ Step m H w m H' w' := by
  unfold aStore at h
  split at h
  · rename_i id off
    split at h
    · rename_i n e cs hn hg
      obtain ⟨h1, h2, h3, hK⟩ := h
      refine ⟨_, hK, AExt.set H id _ (by rw [AHeap.hot, hg]; trivial), fun m w p' v' hr hp hv => ?_⟩
      obtain ⟨l, hm, rfl⟩ := hp.ptr_inv
      have hc := hv.cells
      have hl : off + v.cells.toList.length ≤ cs.length := by simp [h1]; exact h3
      have S := Step.cells hr hm hg off v.cells.toList v'.cells.toList hc hl
      obtain ⟨a1, a2, a3, a4⟩ := hr.rw id l e cs hm hg
      have hlen : v'.cells.size = n := by have := hc.1; simp at this; omega
      have hone : ∀ x ∈ v'.cells.toList, x.oneCell' = true := by
        intro x hx
        obtain ⟨i, hi, rfl⟩ := List.getElem_of_mem hx
        have := hc.2 i (by have := hc.1; omega)
        have e1 : v'.cells.toList.getD i undef = v'.cells.toList[i] := by simp only [List.getD_eq_getElem?_getD, List.getElem?_eq_getElem hi, Option.getD_some]
        rw [e1] at this
        rw [this.one]
        have hi2 : i < v.cells.toList.length := by have := hc.1; omega
        have e2 : v.cells.toList.getD i undef = v.cells.toList[i] := by simp only [List.getD_eq_getElem?_getD, List.getElem?_eq_getElem hi2, Option.getD_some]
        rw [e2]
        exact List.all_eq_true.1 h2 _ (List.getElem_mem hi2)
      have hlist : v'.cells.toList.length = n := by simpa using hlen
      have room := fun j (hj : j < v'.cells.toList.length) => a4 (off + j) (by omega)
      have hst := run_storeCells_cells (P := P) l.blk (l.at_ + off) v'.cells.toList 0 w
        (fun j hj => by have := (room j hj).1; rw [← Nat.add_assoc] at this; simpa using this)
        (fun j hj => by have := (room j hj).2; rw [← Nat.add_assoc] at this; simpa using this) hone
      refine ⟨_, ?_, S⟩
      obtain ⟨i, hi, rfl⟩ : ∃ i, P.info? t = some i ∧ i.size = n := by
        simp only [tSz] at hn
        cases hq : P.info? t with
        | none => simp [hq] at hn
        | some i => exact ⟨i, rfl, by simpa [hq] using hn⟩
      simp only [Instr.storeAt, Instr.sureAddr, storeVar, Sem.run_bind, Sem.run_pure, Result.andThen_ok, run_sizeOf' hi, hlen, ne_eq, not_true_eq_false, if_false]
      rw [Nat.add_zero] at hst
      exact hst
    · exact h.elim
  · exact h.elim

theorem tSz_some {t : TypeId} {n : Nat} (h : tSz P t = some n) : ∃ i, P.info? t = some i ∧ i.size = n := by
  simp only [tSz] at h
  cases hq : P.info? t with
  | none => simp [hq] at h
  | some i => exact ⟨i, rfl, by simpa [hq] using h⟩

theorem VRel.sl_inv {m : Map} {id off len cap : Nat} {v : Value} (h : VRel m (.slice (some ⟨id, off, none⟩) len cap) v) :
    ∃ l a c, m id = some l ∧ v = .slice (some a) len c ∧ len ≤ c ∧ (cap < unk → c = cap) ∧ (a = ⟨l.blk, l.at_ + off, none⟩ ∧ off + c * l.esz ≤ l.lim ∨ c = 0) := by
  cases h with
  | sl h a b c => exact ⟨_, _, _, h, rfl, a, b, c⟩
theorem VRel.snil_inv {m : Map} {len cap : Nat} {v : Value} (h : VRel m (.slice none len cap) v) : v = .slice none 0 0 ∧ len = 0 ∧ cap = 0 := by
  cases h; exact ⟨rfl, rfl, rfl⟩

theorem aIndexAddr_sound {t : TypeId} {x i : Value} {K : Value → Prop} (h : aIndexAddr P t x i K) :
    ∃ v, K v ∧ ∀ m w x' i', VRel m x x' → VRel m i i' → ∃ v', (Instr.indexAt t x' i').run P w = .ok v' w ∧ VRel m v v' := by
  unfold aIndexAddr at h
  split at h
  · rename_i e id off len cap k n hu
    split at h
    · rename_i sz hsz
      obtain ⟨h1, h2, hK⟩ := h
      refine ⟨_, hK, fun m w x' i' hx hi => ?_⟩
      cases hi.int_inv
      obtain ⟨l, a, c, hm, rfl, hl, _, ha⟩ := hx.sl_inv
      obtain ⟨i, hi, rfl⟩ := tSz_some hsz
      rcases ha with ⟨rfl, _⟩ | rfl
      · refine ⟨.pointer (some ⟨l.blk, l.at_ + (off + n.toNat * i.size), none⟩), ?_, .ptr hm⟩
        simp [Instr.indexAt, asIntOf, run_underlying hu, run_sizeOf' hi, h1, h2, addr_add, Nat.add_assoc]
      · omega
    · exact h.elim
  · rename_i len e id off k n hu
    split at h
    · rename_i sz hsz
      obtain ⟨h1, h2, hK⟩ := h
      refine ⟨_, hK, fun m w x' i' hx hi => ?_⟩
      cases hi.int_inv
      obtain ⟨l, hm, rfl⟩ := hx.ptr_inv
      obtain ⟨i, hi, rfl⟩ := tSz_some hsz
      refine ⟨.pointer (some ⟨l.blk, l.at_ + (off + n.toNat * i.size), none⟩), ?_, .ptr hm⟩
      simp [Instr.indexAt, asIntOf, run_underlying hu, run_sizeOf' hi, h1, h2, addr_add, Nat.add_assoc, Instr.sureAddr]
    · exact h.elim
  · exact h.elim

theorem part_run {t : TypeId} {x : Nat × Bool} (hx : tVar P t = some x) {cs : Array Value} {off : Nat} {m : Map} {cs' : Array Value} (hc : VRelL m cs.toList cs'.toList) {K : Value → Prop}
    (h : cellsAt cs.toList off x K) (w : World) : ∃ v v', K v ∧ (part t cs' off).run P w = .ok v' w ∧ VRel m v v' := by
  obtain ⟨v, hK, h1, h2⟩ := cellsAt_sound h
  obtain ⟨i, d, hi, hd, rfl⟩ := tVar_some hx
  refine ⟨v, ?_⟩
  cases hag : aggD d with
  | true =>
    obtain ⟨h3, rfl⟩ := h1 hag
    refine ⟨.agg (cs'.extract off (off + i.size)), hK, ?_, .agg' (VRelL.array ?_)⟩
    · simp [part, run_isAgg hd, hag, run_sizeOf' hi]
    · have := (hc.drop off).take i.size
      simpa [List.extract, Nat.add_sub_cancel_left] using this
  | false =>
    obtain ⟨h3, rfl⟩ := h2 hag
    have hlt : off < cs'.size := by have := hc.1; simp at this h3; omega
    refine ⟨cs'.getD off undef, hK, ?_, ?_⟩
    · simp [part, run_isAgg hd, hag, hlt, Array.getD_eq_getD_getElem?]
    · rw [array_getD_list]; exact hc.2 off h3

theorem cellsAt_fix {cs : List Value} {off : Nat} {x : Nat × Bool} {K : Value → Prop} (h : cellsAt cs off x K) : ∃ v, K v ∧ cellsAt cs off x (fun u => u = v) := by
  unfold cellsAt at h
  split at h
  · rename_i e; exact ⟨_, h.2, by unfold cellsAt; rw [if_pos e]; exact ⟨h.1, rfl⟩⟩
  · rename_i e; exact ⟨_, h.2, by unfold cellsAt; rw [if_neg e]; exact ⟨h.1, rfl⟩⟩

theorem byteAt_eq (s : ByteArray) (i : Nat) (h : i < s.size) : s[i]? = some (s.data.toList.getD i 0) := by
  have h' : i < s.data.size := h
  have : s[i]? = some s[i] := getElem?_pos s i h
  rw [this]
  congr 1
  simp only [List.getD_eq_getElem?_getD, Array.getElem?_toList]
  rw [Array.getElem?_eq_getElem h']
  rfl

theorem aIndex_sound {t : TypeId} {x i : Value} {K : Value → Prop} (h : aIndex P t x i K) :
    ∃ v, K v ∧ ∀ m w x' i', VRel m x x' → VRel m i i' → ∃ v', (Instr.index t x' i').run P w = .ok v' w ∧ VRel m v v' := by
  unfold aIndex at h
  split at h
  · rename_i s k n hu
    obtain ⟨h1, h2, hK⟩ := h
    refine ⟨_, hK, fun m w x' i' hx hi => ?_⟩
    cases hi.int_inv; cases hx.str_inv
    refine ⟨.int .u8 (byteAt s n), ?_, .int _ _⟩
    have hlt : n.toNat < s.size := by omega
    simp [Instr.index, asIntOf, run_underlying hu, h1, byteAt_eq s n.toNat hlt, byteAt]
  · rename_i len e cs k n hu
    split at h
    · rename_i x hx
      obtain ⟨h1, h2, hK⟩ := h
      obtain ⟨v, hv, hfix⟩ := cellsAt_fix hK
      refine ⟨v, hv, fun m w x' i' hxx hi => ?_⟩
      cases hi.int_inv
      cases hxx with
      | agg ha hb =>
        rename_i ys
        have hc : VRelL m cs.toList ys.toList := VRels.list ⟨ha, hb⟩
        obtain ⟨u, v', rfl, hp, hvr⟩ := part_run (P := P) hx hc hfix w
        obtain ⟨i, d, hi, hd, rfl⟩ := tVar_some hx
        exact ⟨v', by simp [Instr.index, asIntOf, run_underlying hu, h1, h2, run_sizeOf' hi, hp], hvr⟩
    · exact h.elim
  · exact h.elim

theorem intOr_rel {m : Map} {d n : Int} {lo lo' : Option Value} (h : intOr d lo = some n) (hr : ∀ v, lo = some v → ∃ v', lo' = some v' ∧ VRel m v v') (hn : lo = none → lo' = none) :
    (lo = none ∧ lo' = none ∧ n = d) ∨ ∃ k, lo' = some (.int k n) := by
  cases lo with
  | none => simp [intOr] at h; exact .inl ⟨rfl, hn rfl, h.symm⟩
  | some v =>
    obtain ⟨v', h1, h2⟩ := hr v rfl
    cases v <;> simp [intOr] at h
    subst h
    cases h2.int_inv
    exact .inr ⟨_, h1⟩

theorem run_sliceBound {k : IntKind} {n : Int} {y : Nat} {code : BoundsCode} (h1 : 0 ≤ n) (h2 : n ≤ y) (w : World) : (Instr.sliceBound (.int k n) y code).run P w = .ok n.toNat w := by
  simp [Instr.sliceBound, asIntOf, h1, h2]


def ORel (m : Map) : Option Value → Option Value → Prop
  | none, none => True
  | some a, some b => VRel m a b
  | _, _ => False

theorem ORel.int {m : Map} {d n : Int} {lo lo' : Option Value} (h : intOr d lo = some n) (hr : ORel m lo lo') :
    (lo = none ∧ lo' = none ∧ n = d) ∨ ∃ k, lo = some (.int k n) ∧ lo' = some (.int k n) := by
  cases lo with
  | none =>
    cases lo' with
    | none => simp [intOr] at h; exact .inl ⟨rfl, rfl, h.symm⟩
    | some v => exact hr.elim
  | some v =>
    cases lo' with
    | none => exact hr.elim
    | some v' =>
      cases v <;> simp [intOr] at h
      subst h
      have : VRel m (.int _ _) v' := hr
      cases this.int_inv
      exact .inr ⟨_, rfl, rfl⟩

/-- The bounds, without a max. -/
theorem run_bounds {m : Map} {lo hi lo' hi' : Option Value} {isS : Bool} {len cap : Nat} {l h : Int} (h1 : intOr 0 lo = some l) (h2 : intOr len hi = some h) (r1 : ORel m lo lo') (r2 : ORel m hi hi')
    (hl : 0 ≤ l) (hlh : l ≤ h) (hc : h ≤ cap) (w : World) : (Instr.sliceBounds isS len cap lo' hi' none).run P w = .ok (l.toNat, h.toNat, cap) w := by
  rcases r1.int h1 with ⟨_, rfl, rfl⟩ | ⟨k, _, rfl⟩ <;> rcases r2.int h2 with ⟨_, rfl, rfl⟩ | ⟨k2, _, rfl⟩
  · simp [Instr.sliceBounds]
  · simp [Instr.sliceBounds, run_sliceBound (P := P) (k := k2) hlh hc]
  · have : l ≤ (len : Int) := hlh
    simp [Instr.sliceBounds, run_sliceBound (P := P) (k := k) hl this]
  · have e : l ≤ (h.toNat : Int) := by omega
    simp [Instr.sliceBounds, run_sliceBound (P := P) (k := k2) (Int.le_trans hl hlh) hc, run_sliceBound (P := P) (k := k) hl e]

theorem run_bounds3 {m : Map} {lo hi lo' hi' : Option Value} {isS : Bool} {len cap : Nat} {l h x : Int} {k : IntKind} (h1 : intOr 0 lo = some l) (h2 : intOr len hi = some h) (r1 : ORel m lo lo') (r2 : ORel m hi hi') (hh : hi ≠ none)
    (hl : 0 ≤ l) (hlh : l ≤ h) (hx : h ≤ x) (hc : x ≤ cap) (w : World) : (Instr.sliceBounds isS len cap lo' hi' (some (.int k x))).run P w = .ok (l.toNat, h.toNat, x.toNat) w := by
  have ex : h ≤ (x.toNat : Int) := by omega
  have e0 : (0 : Int) ≤ x := by omega
  have e1 : l ≤ (h.toNat : Int) := by omega
  rcases r1.int h1 with ⟨_, rfl, rfl⟩ | ⟨k1, _, rfl⟩ <;> rcases r2.int h2 with ⟨e, rfl, rfl⟩ | ⟨k2, _, rfl⟩
  · exact absurd e hh
  · simp [Instr.sliceBounds, run_sliceBound (P := P) (k := k) e0 hc, run_sliceBound (P := P) (k := k2) hlh ex]
  · exact absurd e hh
  · simp [Instr.sliceBounds, run_sliceBound (P := P) (k := k) e0 hc, run_sliceBound (P := P) (k := k2) (Int.le_trans hl hlh) ex, run_sliceBound (P := P) (k := k1) hl e1]

theorem aSlice_sound {H : AHeap} {t : TypeId} {x : Value} {lo hi mx : Option Value} {K : Value → Prop} (h : aSlice P H t x lo hi mx K) :
    ∃ v, K v ∧ ∀ m w x' lo' hi' mx', Rel m H w → VRel m x x' → ORel m lo lo' → ORel m hi hi' → ORel m mx mx' →
      (∃ v', (Instr.slice t x' lo' hi' mx').run P w = .ok v' w ∧ VRel m v v') ∧ ¬ (P.underlying t matches some (.array _ _)) := by
  unfold aSlice at h
  split at h
  · rename_i s hu
    obtain ⟨rfl, h⟩ := h
    split at h
    · rename_i l hh hl hhh
      obtain ⟨h1, h2, h3, hK⟩ := h
      refine ⟨_, hK, fun m w x' lo' hi' mx' hr hx r1 r2 r3 => ⟨⟨_, ?_, .string _⟩, by simp [hu]⟩⟩
      cases hx.str_inv
      cases mx' with
      | some v => exact r3.elim
      | none => simp [Instr.slice, run_underlying hu, run_bounds (P := P) (isS := false) hl hhh r1 r2 h1 h2 h3]
    · exact h.elim
  · rename_i e hu
    obtain ⟨h0, e1, e2, rfl, hK⟩ := h
    refine ⟨_, hK, fun m w x' lo' hi' mx' hr hx r1 r2 r3 => ⟨⟨.slice none 0 0, ?_, .snil⟩, by simp [hu]⟩⟩
    obtain ⟨rfl, _, _⟩ := hx.snil_inv
    cases mx' with
    | some v => exact r3.elim
    | none =>
      have hb := run_bounds (P := P) (isS := true) (len := 0) (cap := 0) e1 e2 r1 r2 (by omega) (by omega) (by omega) w
      obtain ⟨n, hn⟩ := Option.isSome_iff_exists.1 h0
      obtain ⟨i, hq, _⟩ := tSz_some hn
      simp [Instr.slice, run_underlying hu, hb, run_sizeOf' hq]
  · rename_i e id off len cap hu
    split at h
    · rename_i sz l hh hsz hl hhh
      obtain ⟨hes, h1, h2, h⟩ := h
      obtain ⟨i, hif, rfl⟩ := tSz_some hsz
      split at h
      · obtain ⟨h3, hK⟩ := h
        refine ⟨_, hK, fun m w x' lo' hi' mx' hr hx r1 r2 r3 => ?_⟩
        obtain ⟨lc, a, c, hm, rfl, hlc, hcap, ha⟩ := hx.sl_inv
        have hez := hr.esz hm hes
        cases mx' with
        | some v => exact r3.elim
        | none =>
          have hb := run_bounds (P := P) (isS := true) (len := len) (cap := c) hl hhh r1 r2 h1 h2 (by omega) w
          refine ⟨⟨.slice (some (if c = l.toNat then a else a.add (l.toNat * i.size))) (hh.toNat - l.toNat) (c - l.toNat), ?_, ?_⟩, by simp [hu]⟩
          · simp only [Instr.slice, run_underlying hu, Sem.run_bind, Result.andThen_ok, hb, run_sizeOf' hif, Sem.run_pure]
            congr 2
            split <;> simp_all
          · have elen : (hh - l).toNat = hh.toNat - l.toNat := by omega
            rw [elen]
            refine .sl hm (by omega) (fun hlt => ?_) ?_
            · by_cases hcu : cap < unk
              · rw [if_pos hcu] at hlt ⊢; rw [hcap hcu]
              · rw [if_neg hcu] at hlt; exact absurd hlt hcu
            · by_cases e0 : c = l.toNat
              · right; omega
              · left
                rw [if_neg e0]
                rcases ha with ⟨rfl, ha⟩ | rfl
                · refine ⟨by rw [addr_add, Nat.add_assoc], ?_⟩
                  rw [hez] at ha ⊢
                  have : c * i.size = l.toNat * i.size + (c - l.toNat) * i.size := by rw [← Nat.add_mul]; congr 1; omega
                  omega
                · omega
      · rename_i k x
        obtain ⟨h0, h3, h4, hK⟩ := h
        refine ⟨_, hK, fun m w x' lo' hi' mx' hr hx r1 r2 r3 => ?_⟩
        obtain ⟨lc, a, c, hm, rfl, hlc, hcap, ha⟩ := hx.sl_inv
        have hez := hr.esz hm hes
        cases mx' with
        | none => exact r3.elim
        | some v =>
          have : VRel m (.int k x) v := r3
          cases this.int_inv
          have hhn : hi ≠ none := by intro e; rw [e] at h0; simp at h0
          have hb := run_bounds3 (P := P) (isS := true) (len := len) (cap := c) (k := k) (x := x) hl hhh r1 r2 hhn h1 h2 h3 (by omega) w
          refine ⟨⟨.slice (some (if x.toNat = l.toNat then a else a.add (l.toNat * i.size))) (hh.toNat - l.toNat) (x.toNat - l.toNat), ?_, ?_⟩, by simp [hu]⟩
          · simp only [Instr.slice, run_underlying hu, Sem.run_bind, Result.andThen_ok, hb, run_sizeOf' hif, Sem.run_pure]
            congr 2
            split <;> simp_all
          · have elen : (hh - l).toNat = hh.toNat - l.toNat := by omega
            have ecap : (x - l).toNat = x.toNat - l.toNat := by omega
            rw [elen, ecap]
            refine .sl hm (by omega) (fun _ => rfl) ?_
            by_cases e0 : x.toNat = l.toNat
            · right; omega
            · left
              rw [if_neg e0]
              rcases ha with ⟨rfl, ha⟩ | rfl
              · refine ⟨by rw [addr_add, Nat.add_assoc], ?_⟩
                rw [hez] at ha ⊢
                have h5 : x.toNat ≤ c := by omega
                have h6 : x.toNat * i.size ≤ c * i.size := Nat.mul_le_mul_right _ h5
                have : x.toNat * i.size = l.toNat * i.size + (x.toNat - l.toNat) * i.size := by rw [← Nat.add_mul]; congr 1; omega
                omega
              · omega
      · exact h.elim
    · exact h.elim
  · exact h.elim

end Go.Ah

/- The model's operations do to the world what aOp does to the abstract heap: maps, literals, make, append. -/
namespace Go.Ah
variable {P : Program}

/-- Keys are plain and of one kind: the model's search and ours tell the same. -/
theorem findNow_eq {d : TypeDesc} {k : Value} {m : Map} (es : List (Value × Value)) : ∀ (es' : List MapEntry) (i : Nat) (j0 : Nat),
    es'.length = es.length → (∀ j k' v, es[j]? = some (k', v) → ∃ v', es'[j]? = some (MapEntry.mk k' v' (j0 + j)) ∧ VRel m v v') →
    (∀ r, mfind d k es i = some r → ∃ r', Instr.findNow d k es' i = some r' ∧
      (r = none → r' = none) ∧ (∀ n v, r = some (n, v) → ∃ v', r' = some (n, v') ∧ VRel m v v' ∧ ∃ j, n = i + j ∧ ∃ k', es[j]? = some (k', v) ∧ Instr.sameNow d k k' = some true)) := by
  induction es with
  | nil =>
    intro es' i j0 hl _ r hr
    have : es' = [] := List.length_eq_zero_iff.1 (by simpa using hl)
    subst this
    simp [mfind] at hr
    subst hr
    exact ⟨none, rfl, fun _ => rfl, (fun _ _ h => by cases h)⟩
  | cons e es ih =>
    obtain ⟨k', v⟩ := e
    intro es' i j0 hl he r hr
    cases es' with
    | nil => simp at hl
    | cons e' es' =>
      obtain ⟨v', h1, h2⟩ := he 0 k' v (by simp)
      simp at h1
      subst h1
      simp only [mfind] at hr
      simp only [Instr.findNow]
      cases hs : Instr.sameNow d k k' with
      | none => rw [hs] at hr; cases hr
      | some b =>
        rw [hs] at hr
        cases b with
        | true =>
          simp at hr
          subst hr
          exact ⟨some (i, v'), rfl, (fun h => by cases h), fun n u h => by cases h; exact ⟨v', rfl, h2, 0, rfl, k', by simp, hs⟩⟩
        | false =>
          simp at hr
          obtain ⟨r', h3, h4, h5⟩ := ih es' (i + 1) (j0 + 1) (by simpa using hl) (fun j k'' u hj => by
            obtain ⟨u', a, b⟩ := he (j + 1) k'' u (by simpa using hj)
            refine ⟨u', ?_, b⟩
            rw [List.getElem?_cons_succ] at a
            rw [a]; congr 2; omega) r hr
          refine ⟨r', h3, h4, fun n u h => ?_⟩
          obtain ⟨v'', a, b, j, c, k'', f, g⟩ := h5 n u h
          exact ⟨v'', a, b, j + 1, by omega, k'', by simpa using f, g⟩

theorem run_checkKey {kt : TypeId} {d : TypeDesc} (hd : P.underlying kt = some d) (hs : scalarD d = true) (k : Value) (b : Bool) (w : World) : (Instr.checkKey b 10000 kt k).run P w = .ok () w := by
  have : Instr.checkKey b 10000 kt k = Instr.checkKey b (9999 + 1) kt k := rfl
  rw [this, Instr.checkKey, Sem.run_bind, run_underlying hd]
  cases d <;> first | (simp [scalarD] at hs; done) | rfl

theorem VRel.map_inv {m : Map} {id : Nat} {v : Value} (h : VRel m (.map (some id)) v) : ∃ l, m id = some l ∧ v = .map (some l.blk) := by
  cases h with
  | map h => exact ⟨_, h, rfl⟩

theorem tZero_some {t : TypeId} {z : Value} (h : tZero P t = some z) : ∃ i, P.info? t = some i ∧ i.zero = some z := by
  simp only [tZero] at h
  cases hq : P.info? t with
  | none => simp [hq] at h
  | some i => exact ⟨i, rfl, by simpa [hq] using h⟩

theorem run_zero {t : TypeId} {z : Value} (h : tZero P t = some z) (w : World) : (zeroValue t).run P w = .ok z w := by
  obtain ⟨i, h1, h2⟩ := tZero_some h
  simp [zeroValue, typeInfo, h1, h2]

theorem sameNow_key {d : TypeDesc} {k k' : Value} {b : Bool} (h : Instr.sameNow d k k' = some b) : plainCell k = true := by
  cases d <;> cases k <;> cases k' <;> simp_all [Instr.sameNow, plainCell]
theorem bytes_beq {a b : ByteArray} (h : (a == b) = true) : a = b := by
  have : (a.data == b.data) = true := h
  cases a; cases b
  simpa using this
theorem sameNow_true {d : TypeDesc} {k k' : Value} (h : Instr.sameNow d k k' = some true) : k = k' := by
  cases d <;> cases k <;> cases k' <;> simp_all [Instr.sameNow]
  exact bytes_beq h

theorem plain_rel {m : Map} {k k' : Value} (hk : plainCell k = true) (h : VRel m k k') : k' = k := by
  cases h <;> first | rfl | (simp [plainCell] at hk; done)

theorem aLookup_sound {H : AHeap} {t : TypeId} {x k : Value} {ok : Bool} {K : Value → Prop} (h : aLookup P H t x k ok K) :
    ∃ v, K v ∧ ∀ m w x' k', Rel m H w → VRel m x x' → VRel m k k' → ∃ v', (Instr.lookup t x' k' ok).run P w = .ok v' w ∧ VRel m v v' := by
  unfold aLookup at h
  split at h
  · rename_i kt et id hu
    split at h
    · rename_i d z es hd hz hg
      obtain ⟨hs, hpz, hpk, h⟩ := h
      have getmap : ∀ m w (l : Loc), Rel m H w → m id = some l → ∃ es' : Array MapEntry, (getObj l.blk).run P w = .ok (.map es' es'.size) w ∧ es'.toList.length = es.length ∧
          ∀ j k' v, es[j]? = some (k', v) → ∃ v', es'.toList[j]? = some (MapEntry.mk k' v' (0 + j)) ∧ VRel m v v' := by
        intro m w l hr hm
        obtain ⟨es', clk, h1, h2, h3, h4⟩ := hr.mp id l es hm hg
        refine ⟨es', ?_, by simpa using h2, fun j k' v hj => ?_⟩
        · subst h3; simp [getObj, Sem.run, h1, h2]
        · obtain ⟨v', a, b⟩ := h4 j k' v hj
          exact ⟨v', by simpa using a, b⟩
      split at h
      · rename_i i v hf
        refine ⟨_, h, fun m w x' k' hr hx hk => ?_⟩
        obtain ⟨l, hm, rfl⟩ := hx.map_inv
        obtain ⟨es', h1, h2, h3⟩ := getmap m w l hr hm
        obtain ⟨r', h4, _, h5⟩ := findNow_eq (d := d) (k := k) (m := m) es es'.toList 0 0 h2 h3 _ hf
        obtain ⟨v', rfl, hv, _⟩ := h5 i v rfl
        cases plain_rel hpk hk
        refine ⟨if ok then .tuple #[v', .bool true] else v', ?_, ?_⟩
        · simp [Instr.lookup, run_underlying hu, h1, run_checkKey hd hs, Instr.findKey, run_underlying hd, h4]
        · cases ok with
          | true => exact .tuple' (VRelL.array ((VRelL.nil m).cons (.bool _) |>.cons hv))
          | false => exact hv
      · rename_i hf
        refine ⟨_, h, fun m w x' k' hr hx hk => ?_⟩
        obtain ⟨l, hm, rfl⟩ := hx.map_inv
        obtain ⟨es', h1, h2, h3⟩ := getmap m w l hr hm
        obtain ⟨r', h4, h5, _⟩ := findNow_eq (d := d) (k := k) (m := m) es es'.toList 0 0 h2 h3 _ hf
        cases h5 rfl
        cases plain_rel hpk hk
        refine ⟨if ok then .tuple #[z, .bool false] else z, ?_, ?_⟩
        · simp [Instr.lookup, run_underlying hu, h1, run_checkKey hd hs, Instr.findKey, run_underlying hd, h4, run_zero hz]
        · cases ok with
          | true => exact .tuple' (VRelL.array ((VRelL.nil m).cons (.bool _) |>.cons (.plain hpz)))
          | false => exact .plain hpz
      · exact h.elim
    · exact h.elim
  · exact h.elim

theorem sameBits_self (n : Nat) {k : Value} (h : plainCell k = true) (hd : ∃ d, Instr.sameNow d k k = some true) : Instr.sameBits n k k = true := by
  obtain ⟨d, hd⟩ := hd
  cases d <;> cases k <;> cases n <;> simp_all [Instr.sameNow, Instr.sameBits]

theorem aMapUpdate_sound {H : AHeap} {t : TypeId} {x k v : Value} {K : AHeap → Prop} (h : aMapUpdate P H t x k v K) :
    ∃ H', K H' ∧ AExt H H' ∧ ∀ m w x' k' v', Rel m H w → VRel m x x' → VRel m k k' → VRel m v v' → ∃ w', (Instr.mapUpdate t x' k' v').run P w = .ok () w' ∧ Step m H w m H' w' := by
  unfold aMapUpdate at h
  split at h
  · rename_i kt et id hu
    split at h
    · rename_i d es hd hg
      obtain ⟨hs, hpk, h⟩ := h
      have hhot : H.hot id := by rw [AHeap.hot, hg]; trivial
      have getmap : ∀ m w (l : Loc), Rel m H w → m id = some l → ∃ es' : Array MapEntry, w.heap[l.blk]? = some (.map es' es'.size) ∧ es'.toList.length = es.length ∧
          ∀ j k' v, es[j]? = some (k', v) → ∃ v', es'.toList[j]? = some (MapEntry.mk k' v' (0 + j)) ∧ VRel m v v' := by
        intro m w l hr hm
        obtain ⟨es', clk, h1, h2, h3, h4⟩ := hr.mp id l es hm hg
        refine ⟨es', ?_, by simpa using h2, fun j k' v hj => ?_⟩
        · subst h3; rw [h2]; exact h1
        · obtain ⟨v', a, b⟩ := h4 j k' v hj
          exact ⟨v', by simpa using a, b⟩
      have wr : ∀ m w (l : Loc) (es1 : List (Value × Value)) (es1' : Array MapEntry) (clk : Nat), Rel m H w → m id = some l → (∃ o, w.heap[l.blk]? = some o) → MRel m es1 es1' clk →
          Step m H w m (H.set id (.mp es1)) { w with heap := w.heap.setIfInBounds l.blk (.map es1' clk) } := by
        intro m w l es1 es1' clk hr hm ho hM
        have hlt : l.blk < w.heap.size := hr.dom _ _ hm
        refine Step.write hr hm hhot _ (fun k hk => ?_) (by simp) rfl rfl rfl (fun _ _ h => by cases h) (fun _ _ h => by cases h) (fun es h => ?_)
        · simp only
          rw [Array.getElem?_setIfInBounds_ne (Ne.symm hk)]
        · cases h
          exact ⟨es1', clk, by simp [hlt], hM⟩
      split at h
      · rename_i i u hf
        refine ⟨_, h, AExt.set H id _ hhot, fun m w x' k' v' hr hx hk hv => ?_⟩
        obtain ⟨l, hm, rfl⟩ := hx.map_inv
        obtain ⟨es', h1, h2, h3⟩ := getmap m w l hr hm
        obtain ⟨r', h4, _, h5⟩ := findNow_eq (d := d) (k := k) (m := m) es es'.toList 0 0 h2 h3 _ hf
        obtain ⟨u', rfl, hu', j, hj, k2, hk2, hsame⟩ := h5 i u rfl
        cases plain_rel hpk hk
        have hji : j = i := by omega
        subst hji
        cases sameNow_true hsame
        obtain ⟨v2, hv2, _⟩ := h3 j k u hk2
        have hv2' : es'[j]? = some (MapEntry.mk k v2 (0 + j)) := by simpa using hv2
        have hsb : Instr.sameBits 10000 k k = true := sameBits_self _ hpk ⟨d, hsame⟩
        have hjl : j < es'.size := by
          rcases Nat.lt_or_ge j es'.size with h' | h'
          · exact h'
          · rw [Array.getElem?_eq_none h'] at hv2'; cases hv2'
        refine ⟨_, ?_, wr m w l (es.set j (k, v)) (es'.modify j fun e => { e with key := k, val := v' }) es'.size hr hm ⟨_, h1⟩ ⟨by simp at h2 ⊢; omega, by simp at h2 ⊢; omega, fun j' k' u2 hj' => ?_⟩⟩
        · simp [Instr.mapUpdate, run_underlying hu, getObj, setObj, Sem.run, h1, run_checkKey hd hs, Instr.findKey, run_underlying hd, h4, hv2', Instr.keyThatStays, hsb]
        · by_cases e : j' = j
          · subst e
            have hjl2 : j' < es.length := by simp at h2; omega
            rw [List.getElem?_set_self hjl2] at hj'
            cases hj'
            refine ⟨v', ?_, hv⟩
            rw [Array.getElem?_modify, if_pos rfl, hv2']
            simp
          · rw [List.getElem?_set_ne (Ne.symm e)] at hj'
            obtain ⟨v3, a, b⟩ := h3 j' k' u2 hj'
            refine ⟨v3, ?_, b⟩
            rw [Array.getElem?_modify, if_neg (Ne.symm e)]
            simpa using a
      · rename_i hf
        refine ⟨_, h, AExt.set H id _ hhot, fun m w x' k' v' hr hx hk hv => ?_⟩
        obtain ⟨l, hm, rfl⟩ := hx.map_inv
        obtain ⟨es', h1, h2, h3⟩ := getmap m w l hr hm
        obtain ⟨r', h4, h5, _⟩ := findNow_eq (d := d) (k := k) (m := m) es es'.toList 0 0 h2 h3 _ hf
        cases h5 rfl
        cases plain_rel hpk hk
        refine ⟨_, ?_, wr m w l (es ++ [(k, v)]) (es'.push { key := k, val := v', born := es'.size }) (es'.size + 1) hr hm ⟨_, h1⟩ ⟨by simp at h2 ⊢; omega, by simp at h2 ⊢; omega, fun j' k' u2 hj' => ?_⟩⟩
        · simp [Instr.mapUpdate, run_underlying hu, getObj, setObj, Sem.run, h1, run_checkKey hd hs, Instr.findKey, run_underlying hd, h4]
        · have hsz : es'.size = es.length := by simpa using h2
          by_cases e : j' < es.length
          · rw [List.getElem?_append_left e] at hj'
            obtain ⟨v3, a, b⟩ := h3 j' k' u2 hj'
            refine ⟨v3, ?_, b⟩
            rw [Array.getElem?_push, if_neg (by omega)]
            simpa using a
          · by_cases e2 : j' = es.length
            · subst e2
              simp at hj'
              obtain ⟨rfl, rfl⟩ := hj'
              refine ⟨v', ?_, hv⟩
              rw [Array.getElem?_push, if_pos (by omega), hsz]
            · rw [List.getElem?_eq_none (by simp; omega)] at hj'; cases hj'
      · exact h.elim
    · exact h.elim
  · exact h.elim

end Go.Ah

/- The model's operations do to the world what aOp does to the abstract heap: literals, make, append. -/
namespace Go.Ah
variable {P : Program}

theorem fold_splice (off : Nat) : ∀ (vs : List Value) (k : Nat) (cells : Array Value),
    ((vs.zipIdx k).foldl (fun cs (x : Value × Nat) => cs.setIfInBounds (off + x.2) x.1) cells).toList = splice cells.toList (off + k) vs
  | [], _, _ => rfl
  | v :: r, k, cells => by
    rw [List.zipIdx_cons, List.foldl_cons, fold_splice off r (k + 1)]
    simp [splice, Nat.add_assoc]

theorem splice_rel {m : Map} {vs vs' : List Value} (hv : VRelL m vs vs') : ∀ {cs cs' : List Value} (off : Nat), VRelL m cs cs' → VRelL m (splice cs off vs) (splice cs' off vs') := by
  induction vs generalizing vs' with
  | nil => intro cs cs' off h; rw [hv.nil_inv]; exact h
  | cons v r ih =>
    obtain ⟨v', r', rfl, h1, h2⟩ := hv.cons_inv
    intro cs cs' off h
    exact ih h2 _ (h.set off h1)

def PRel (m : Map) : List (Nat × Value) → List (Nat × Value) → Prop
  | [], [] => True
  | (i, v) :: r, (j, v') :: r' => i = j ∧ VRel m v v' ∧ PRel m r r'
  | _, _ => False

theorem fill_step (place : Nat → Option (Nat × Nat)) (cells : Array Value) (i off n : Nat) (v : Value) (r : List (Nat × Value)) (hp : place i = some (off, n)) (hn : v.cells.size = n) (hl : off + n ≤ cells.size) :
    Instr.fill place cells ((i, v) :: r) = Instr.fill place (splice cells.toList off v.cells.toList).toArray r := by
  have : (v.cells.zipIdx.foldl (fun cs (x : Value × Nat) => cs.setIfInBounds (off + x.2) x.1) cells) = (splice cells.toList off v.cells.toList).toArray := by
    apply Array.ext'
    have e := fold_splice off v.cells.toList 0 cells
    rw [Nat.add_zero] at e
    rw [← e, ← Array.foldl_toList, Array.toList_zipIdx]
  rw [Instr.fill, hp]
  have c : ¬ (v.cells.size ≠ n ∨ off + v.cells.size > cells.size) := by omega
  simp only [Bool.or_eq_true, decide_eq_true_eq, if_neg c]
  rw [← this]

theorem aFill_sound {place : Nat → Option (Nat × Nat)} {K : List Value → Prop} : ∀ (parts : List (Nat × Value)) (cs : List Value), aFill place K parts cs →
    ∃ out, K out ∧ out.length = cs.length ∧ ∀ m (cells' : Array Value) parts', VRelL m cs cells'.toList → PRel m parts parts' → ∃ out', Instr.fill place cells' parts' = some out' ∧ VRelL m out out'.toList
  | [], cs, h => ⟨cs, h, rfl, fun m cells' parts' hc hp => by
      cases parts' with
      | nil => exact ⟨cells', rfl, hc⟩
      | cons p r => exact hp.elim⟩
  | (i, v) :: r, cs, h => by
    simp only [aFill] at h
    split at h
    · rename_i off n hpl
      obtain ⟨h1, h2, h⟩ := h
      obtain ⟨out, hK, hlen, ih⟩ := aFill_sound r _ h
      refine ⟨out, hK, by rw [hlen, splice_length], fun m cells' parts' hc hp => ?_⟩
      cases parts' with
      | nil => exact hp.elim
      | cons p r' =>
        obtain ⟨j, v'⟩ := p
        obtain ⟨rfl, hv, hr⟩ := hp
        have hvc := hv.cells
        have e1 : v'.cells.size = n := by have := hvc.1; simp at this; omega
        have e2 : off + n ≤ cells'.size := by have := hc.1; simp at this; omega
        rw [fill_step place cells' i off n v' r' hpl e1 e2]
        exact ih m _ r' (by simpa using splice_rel hvc off hc) hr
    · exact h.elim

theorem rep_getElem (z : List Value) (hz : 0 < z.length) : ∀ (n i : Nat), i < n * z.length → (repCells z n)[i]? = some z[i % z.length]!
  | 0, i, h => by simp at h
  | n + 1, i, h => by
    have e : repCells z (n + 1) = z ++ repCells z n := by simp [repCells, List.replicate_succ]
    rw [e]
    by_cases hi : i < z.length
    · rw [List.getElem?_append_left hi, Nat.mod_eq_of_lt hi]
      simp [hi]
    · rw [List.getElem?_append_right (by omega)]
      rw [rep_getElem z hz n (i - z.length) (by rw [Nat.add_mul] at h; omega)]
      have : i % z.length = (i - z.length) % z.length := by
        rw [Nat.mod_eq_sub_mod (by omega)]
      rw [this]

theorem rep_length (z : List Value) (n : Nat) : (repCells z n).length = n * z.length := by
  simp [repCells]

theorem rep_eq (z : Array Value) (n sz : Nat) (hz : z.size = sz) (h0 : 0 < sz) : ((Array.range (n * sz)).map (fun i => z[i % z.size]!)).toList = repCells z.toList n := by
  apply List.ext_getElem?
  intro i
  by_cases hi : i < n * sz
  · rw [rep_getElem z.toList (by simp; omega) n i (by simp [hz]; exact hi)]
    have hm : i % z.size < z.size := Nat.mod_lt _ (by omega)
    have e1 := getElem!_pos z (i % z.size) hm
    have e2 : z[i % z.size]? = some z[i % z.size] := getElem?_pos z _ hm
    simp [hi, e1, e2]
  · rw [List.getElem?_eq_none (by simp; omega), List.getElem?_eq_none (by rw [rep_length]; simp [hz]; omega)]

theorem tElem_some {t : TypeId} {x : Nat × Nat × Option Value} (h : tElem P t = some x) : ∃ e i, P.underlying t = some (.slice e) ∧ P.info? e = some i ∧ x = (i.size, i.bytes, i.zero) := by
  unfold tElem at h
  split at h
  · rename_i e hu
    cases hq : P.info? e with
    | none => simp [hq] at h
    | some i => exact ⟨e, i, hu, hq, by simpa [hq] using h.symm⟩
  · cases h

theorem rep_rel {m : Map} {z : List Value} (hz : z.all plainCell = true) (n : Nat) : VRelL m (repCells z n) (repCells z n) := by
  apply VRelL.plain
  simp only [repCells, List.all_flatten]
  simp only [List.all_eq_true] at *
  intro x hx y hy
  obtain ⟨_, rfl⟩ := List.mem_replicate.1 hx
  exact hz y hy

theorem plain_cells {z : Value} (hz : plainV z = true) : z.cells.toList.all plainCell = true := by
  cases z <;> first | exact hz | (simpa [Value.cells, plainV] using hz)

theorem aMake_sound {H : AHeap} {t : TypeId} {l c : Value} {K : Value → AHeap → Prop} (h : aMake P H t l c K) :
    ∃ v H', K v H' ∧ AKeep H H' ∧ ∀ m w l' c', Rel m H w → Free m H H' → VRel m l l' → VRel m c c' → ∃ v' m' w', (Instr.makeSlice t l' c').run P w = .ok v' w' ∧ VRel m' v v' ∧ Step m H w m' H' w' := by
  unfold aMake at h
  split at h
  · rename_i sz by_ z n k hte
    obtain ⟨h1, h2, h3, h4, h5, h6, h7, hK⟩ := h
    refine ⟨_, _, hK, AKeep.push _ _, fun m w l' c' hr hfr hl hc => ?_⟩
    cases hl.int_inv; cases hc.int_inv
    obtain ⟨e, i, hu, hi, hx⟩ := tElem_some hte
    simp only [Prod.mk.injEq] at hx
    obtain ⟨rfl, rfl, hz⟩ := hx
    have hz' : i.zero = some z := hz.symm
    have hk : k.toNat < 9223372036854775808 := by simp only [unk] at h4; omega
    have w1 : IntKind.i64.wrap n = n := by simp only [IntKind.wrap]; simp only [IntKind.bits, IntKind.signed, unk] at *; simp; omega
    have w2 : IntKind.i64.wrap k = k := by simp only [IntKind.wrap]; simp only [IntKind.bits, IntKind.signed, unk] at *; simp; omega
    have c1 : ¬ (k < 0) := by omega
    have c2 : ¬ (n < 0) := by omega
    have c4 : ¬ (k < n) := by omega
    have c3 : ¬ (281474976710656 < (i.bytes : Int) * k) := by rw [Int.mul_comm]; omega
    have S := Step.alloc (t := e) hr hfr.push i.size (repCells z.cells.toList k.toNat) ((Array.range (k.toNat * i.size)).map (fun j => z.cells[j % z.cells.size]!)) (by rw [rep_length]; simp [h5])
      (by rw [rep_eq z.cells k.toNat i.size h5 h6]; rw [List.take_of_length_le (Nat.le_refl _)]; exact rep_rel (plain_cells h7) _)
    refine ⟨.slice (some ⟨w.heap.size, 0, none⟩) n.toNat k.toNat, _, _, ?_, .sl (Map.put_same _ _ _) (by omega) (fun _ => rfl) (.inl ⟨rfl, by simp⟩), S⟩
    by_cases hk0 : k.toNat * i.size = 0
    · have : (Array.range (k.toNat * i.size)).map (fun j => z.cells[j % z.cells.size]!) = #[] := by rw [hk0]; simp
      simp [Instr.makeSlice, run_underlying hu, asInt, asIntOf, typeInfo, hi, sizeOf, zeroValue, hz', newRow, w1, w2, c1, c2, c3, c4, hk0]
      simp [show Array.range 0 = #[] from rfl]
    · simp [Instr.makeSlice, run_underlying hu, asInt, asIntOf, typeInfo, hi, sizeOf, zeroValue, hz', newRow, w1, w2, c1, c2, c3, c4, hk0]
  · exact h.elim

theorem aNews_sound {H : AHeap} {t2 : TypeId} {sz : Nat} {x : Value} {K : List Value → Nat → Prop} (h : aNews P H t2 sz x K) :
    ∃ nc n, K nc n ∧ nc.length = n * sz ∧ (∃ d, P.underlying t2 = some d ∧ ∀ k, d ≠ .int k) ∧ ∀ m w x', Rel m H w → VRel m x x' → ∃ nc' : List Value, (Builtin.lenOf x').run P w = .ok n w ∧ VRelL m nc nc' ∧
      (∀ w', (∀ b o v, w.cell? ⟨b, o, none⟩ = some v → w'.cell? ⟨b, o, none⟩ = some v) → ∀ k, k ≤ n → (Builtin.firstCells sz k x').run P w' = .ok (nc'.take (k * sz)).toArray w') := by
  unfold aNews at h
  split at h
  · rename_i e c hu
    refine ⟨_, _, h, by simp, ⟨_, hu, by simp⟩, fun m w x' hr hx => ?_⟩
    obtain ⟨rfl, _, _⟩ := hx.snil_inv
    exact ⟨[], by simp [Builtin.lenOf], VRelL.nil m, fun w' _ k hk => by simp [Builtin.firstCells]⟩
  · rename_i e id off n cap hu
    split at h
    · rename_i cs hc
      obtain ⟨h1, hK⟩ := h
      refine ⟨_, _, hK, by simp; omega, ⟨_, hu, by simp⟩, fun m w x' hr hx => ?_⟩
      obtain ⟨l, a, c, hm, rfl, h2, h3, h4⟩ := hx.sl_inv
      obtain ⟨cs', h5, h6, h7, h8⟩ := hr.run_cells (P := P) hm hc off (n * sz) h1
      refine ⟨cs', by simp [Builtin.lenOf], h6, fun w' hw k hk => ?_⟩
      rcases h4 with ⟨rfl, _⟩ | rfl
      · have hlen : (cs'.take (k * sz)).length = k * sz := by
          rw [List.length_take, h7]
          have := Nat.mul_le_mul_right sz hk
          omega
        have := run_loadCells_list (P := P) w' ⟨l.blk, l.at_ + off, none⟩ (cs'.take (k * sz)) (fun j v hj => by
          rw [addr_add]
          refine hw _ _ _ (h8 j v ?_)
          rw [List.getElem?_take] at hj
          split at hj
          · exact hj
          · cases hj)
        rw [hlen] at this
        simp [Builtin.firstCells, this]
      · have : n = 0 := by omega
        subst this
        have hk0 : k = 0 := by omega
        subst hk0
        have := run_loadCells_list (P := P) w' a [] (fun j v hj => by simp at hj)
        simp at this
        simp [Builtin.firstCells, this]
    · exact h.elim
  · rename_i s hu
    obtain ⟨rfl, hK⟩ := h
    refine ⟨_, _, hK, by simp, ⟨_, hu, by simp⟩, fun m w x' hr hx => ?_⟩
    cases hx.str_inv
    refine ⟨_, by simp [Builtin.lenOf], VRelL.plain (List.all_eq_true.2 (fun x hx => by simp at hx; obtain ⟨b, _, rfl⟩ := hx; rfl)), fun w' hw k hk => ?_⟩
    simp only [Builtin.firstCells, Sem.run_pure, Nat.mul_one]
    congr 1
    apply Array.ext'
    simp only [Array.toList_map, List.map_take.symm]
    congr 1
    simp [ByteArray.data_extract, List.extract]
  · exact h.elim

theorem run_lenOf_any {x : Value} {n : Nat} {w w' : World} (h : (Builtin.lenOf x).run P w = .ok n w) : (Builtin.lenOf x).run P w' = .ok n w' := by
  cases x <;> simp_all [Builtin.lenOf]

theorem tApp_some {t : TypeId} {x : Nat × Nat} (h : tApp P t = some x) : ∃ e i z, P.underlying t = some (.slice e) ∧ P.info? e = some i ∧ i.zero = some z ∧ z.cells.size = i.size ∧ x = (i.size, i.bytes) := by
  unfold tApp at h
  split at h
  · rename_i sz by_ z hte
    split at h
    · rename_i hz
      obtain ⟨e, i, hu, hi, hx⟩ := tElem_some hte
      simp only [Prod.mk.injEq] at hx
      obtain ⟨rfl, rfl, hzz⟩ := hx
      exact ⟨e, i, z, hu, hi, hzz.symm, hz, by simpa using h.symm⟩
    · cases h
  · cases h

theorem grown_le (w : World) (need old : Nat) (e : TypeId) : need ≤ grownCap w need old e := by
  simp [grownCap, Question.cut]

/-- The append that makes a new row. -/
theorem run_append_new {t1 t2 ty e : TypeId} {i : TypeInfo} {z : Value} {d : TypeDesc} (hu : P.underlying t1 = some (.slice e)) (hi : P.info? e = some i) (hz : i.zero = some z)
    (hd : P.underlying t2 = some d) (hdk : ∀ k, d ≠ .int k) (base : Option Addr) (len cap n : Nat) (x : Value) (w : World) (olds news : List Value)
    (hl : (Builtin.lenOf x).run P w = .ok n w) (hnew : (Builtin.firstCells i.size n x).run P w.drew = .ok news.toArray w.drew) (hold : (Builtin.firstCells i.size len (.slice base len cap)).run P w.drew = .ok olds.toArray w.drew)
    (hg : cap < len + n) (hb : (len + n) * i.bytes ≤ 140737488355328) (h63 : len + n ≤ 9223372036854775807) :
    (Builtin.append_ #[t1, t2] ty #[.slice base len cap, x]).run P w =
      .ok (.slice (some ⟨w.heap.size, 0, none⟩) (len + n) (grownCap w (len + n) cap e)) (w.drew.alloc (.cells (olds.toArray ++ news.toArray ++ Builtin.zeroCells z.cells (grownCap w (len + n) cap e - (len + n))) e)) := by
  have c1 : ¬ (len + n ≤ cap) := by omega
  have c2 : ¬ (9223372036854775807 < ((len : Int) + (n : Int))) := by omega
  have c3 : ¬ (281474976710656 < Builtin.nextslicecap (len + n) cap * i.bytes) := by have := growslice_fits (bytes := i.bytes) hg hb; omega
  simp [Builtin.append_, run_underlying hu, run_underlying hd, sizeOf, typeInfo, zeroValue, hi, hz, hl, c1, c2, c3, Question.forced, hnew, hold, newRow, grownCap]
  congr 2
  apply Array.ext'
  simp

/-- The append in place. -/
theorem run_append_room {t1 t2 ty e : TypeId} {i : TypeInfo} {d : TypeDesc} (hu : P.underlying t1 = some (.slice e)) (hi : P.info? e = some i)
    (hd : P.underlying t2 = some d) (hdk : ∀ k, d ≠ .int k) (base : Option Addr) (len cap n : Nat) (x : Value) (w w' : World) (news : List Value)
    (hl : (Builtin.lenOf x).run P w = .ok n w) (hnew : (Builtin.firstCells i.size n x).run P w = .ok news.toArray w) (hg : len + n ≤ cap)
    (hst : ∀ a, base = some a → (storeCells (a.add (len * i.size)) news).run P w = .ok () w') (hno : base = none → w' = w) :
    (Builtin.append_ #[t1, t2] ty #[.slice base len cap, x]).run P w = .ok (.slice base (len + n) cap) w' := by
  cases base with
  | none => cases hno rfl; simp [Builtin.append_, run_underlying hu, run_underlying hd, sizeOf, typeInfo, hi, hl, hg, hnew]
  | some a => simp [Builtin.append_, run_underlying hu, run_underlying hd, sizeOf, typeInfo, hi, hl, hg, hnew, hst a rfl]

theorem zeroCells_size (z : Array Value) (n : Nat) : (Builtin.zeroCells z n).size = n * z.size := by simp [Builtin.zeroCells]

theorem VRelL.one {m : Map} {xs ys : List Value} (h : VRelL m xs ys) (h1 : xs.all (·.oneCell') = true) : ∀ y ∈ ys, y.oneCell' = true := by
  induction xs generalizing ys with
  | nil => rw [h.nil_inv]; simp
  | cons x xs ih =>
    obtain ⟨y, ys, rfl, h2, h3⟩ := h.cons_inv
    simp at h1
    intro v hv
    rcases List.mem_cons.1 hv with rfl | hv
    · rw [h2.one]; exact h1.1
    · exact ih h3 (by simpa using h1.2) v hv

set_option maxHeartbeats 2000000 in
theorem aAppend_sound {H : AHeap} {t1 t2 : TypeId} {s x : Value} {K : Value → AHeap → Prop} (h : aAppend P H t1 t2 s x K) :
    ∃ v H', K v H' ∧ AExt H H' ∧ ∀ m w s' x' ty, Rel m H w → Free m H H' → VRel m s s' → VRel m x x' → ∃ v' m' w', (Builtin.append_ #[t1, t2] ty #[s', x']).run P w = .ok v' w' ∧ VRel m' v v' ∧ Step m H w m' H' w' := by
  unfold aAppend at h
  split at h
  · rename_i sz by_ hta
    obtain ⟨e, i, z, hu, hi, hz, hzs, hx⟩ := tApp_some hta
    simp only [Prod.mk.injEq] at hx
    obtain ⟨rfl, rfl⟩ := hx
    obtain ⟨nc, n, h, hncl, ⟨d, hd, hdk⟩, hN⟩ := aNews_sound h
    have drewCell : ∀ w : World, ∀ b o v, w.cell? ⟨b, o, none⟩ = some v → w.drew.cell? ⟨b, o, none⟩ = some v := fun w b o v h => h
    -- a new row
    have mkNew : ∀ (base : Option Addr) (len cap : Nat) (olds : List Value) m w (olds' nc' : List Value) x' ty, Rel m H w → m H.size = none → (Builtin.lenOf x').run P w = .ok n w →
        (∀ w', (∀ b o v, w.cell? ⟨b, o, none⟩ = some v → w'.cell? ⟨b, o, none⟩ = some v) → ∀ k, k ≤ n → (Builtin.firstCells i.size k x').run P w' = .ok (nc'.take (k * i.size)).toArray w') →
        VRelL m nc nc' → VRelL m olds olds' → olds.length = len * i.size → (Builtin.firstCells i.size len (.slice base len cap)).run P w.drew = .ok olds'.toArray w.drew →
        cap < len + n → (len + n) * i.bytes ≤ 140737488355328 → len + n ≤ 9223372036854775807 →
        ∃ v' m' w', (Builtin.append_ #[t1, t2] ty #[.slice base len cap, x']).run P w = .ok v' w' ∧ VRel m' (.slice (some ⟨H.size, 0, none⟩) (len + n) unk) v' ∧
          Step m H w m' (H.push (.rw i.size (olds ++ nc))) w' := by
      intro base len cap olds m w olds' nc' x' ty hr hfr hl hf hnc holds hol hfo hg hb h63
      have hnew := hf w.drew (drewCell w) n (Nat.le_refl _)
      have hncl' : nc'.length = n * i.size := by rw [← hnc.1, hncl]
      rw [List.take_of_length_le (by omega)] at hnew
      have R := run_append_new (ty := ty) hu hi hz hd hdk base len cap n x' w olds' nc' hl hnew hfo hg hb h63
      refine ⟨_, _, _, R, ?_, Step.trans (fun id h1 h2 => by rw [size_push] at h2; rw [show id = H.size by omega]; exact hfr) (Step.drew hr rfl rfl rfl rfl : Step m H w m H w.drew) (Step.alloc (show Rel m H w.drew from hr.drew rfl) hfr i.size (olds ++ nc) _ e ?_ ?_)⟩
      · refine .sl (Map.put_same _ _ _) (grown_le _ _ _ _) (fun h => absurd h (by simp)) (.inl ⟨rfl, ?_⟩)
        have := grown_le w (len + n) cap e
        have e1 : grownCap w (len + n) cap e * i.size = (len + n) * i.size + (grownCap w (len + n) cap e - (len + n)) * i.size := by rw [← Nat.add_mul]; congr 1; omega
        have e2 : olds'.length = len * i.size := by rw [← holds.1, hol]
        simp only [Array.size_append, List.size_toArray, zeroCells_size, hzs, e2, hncl', Nat.zero_add]
        rw [e1, Nat.add_mul]
        exact Nat.le_refl _
      · have e2 : olds'.length = olds.length := holds.1.symm
        have e3 : nc'.length = nc.length := hnc.1.symm
        simp only [Array.size_append, List.size_toArray, List.length_append]; omega
      · have e2 : olds'.length = olds.length := holds.1.symm
        have e3 : nc'.length = nc.length := hnc.1.symm
        have : ((olds'.toArray ++ nc'.toArray ++ Builtin.zeroCells z.cells (grownCap w (len + n) cap e - (len + n))).toList.take (olds ++ nc).length) = olds' ++ nc' := by
          simp only [Array.toList_append]
          rw [List.take_append_of_le_length (by simp; omega), List.take_of_length_le (by simp; omega)]
        rw [this]
        exact holds.append hnc
    split at h
    · -- nil
      obtain ⟨h1, h2, h⟩ := h
      have h1' : (0 + n) * i.bytes ≤ 140737488355328 := by rw [Nat.zero_add]; exact h1
      split at h
      · rename_i hn
        refine ⟨_, _, h, AExt.refl H, fun m w s' x' ty hr hfr hs hxx => ?_⟩
        obtain ⟨rfl, _, _⟩ := hs.snil_inv
        obtain ⟨nc', hl, hnc, hf⟩ := hN m w x' hr hxx
        have hnew := hf w (fun _ _ _ h => h) n (Nat.le_refl _)
        have := run_append_room (ty := ty) (w' := w) hu hi hd hdk none 0 0 n x' w _ hl hnew (by omega) (fun a h => by cases h) (fun _ => rfl)
        subst hn
        exact ⟨_, m, w, this, .snil, Step.refl hr⟩
      · rename_i hn
        refine ⟨_, _, h, (AKeep.push _ _).ext, fun m w s' x' ty hr hfr hs hxx => ?_⟩
        obtain ⟨rfl, _, _⟩ := hs.snil_inv
        obtain ⟨nc', hl, hnc, hf⟩ := hN m w x' hr hxx
        have := mkNew none 0 0 [] m w [] nc' x' ty hr hfr.push hl hf hnc (VRelL.nil m) (by simp) (by simp [Builtin.firstCells]) (by omega) h1' (by omega)
        simpa using this
    · -- a slice
      rename_i id off len cap _
      obtain ⟨h1, h2, h⟩ := h
      have h1' : (len + n) * i.bytes ≤ 140737488355328 := h1
      split at h
      · rename_i hn
        refine ⟨_, _, h, AExt.refl H, fun m w s' x' ty hr hfr hs hxx => ?_⟩
        obtain ⟨l, a, c, hm, rfl, h3, h4, h5⟩ := hs.sl_inv
        obtain ⟨nc', hl, hnc, hf⟩ := hN m w x' hr hxx
        have hnew := hf w (fun _ _ _ h => h) n (Nat.le_refl _)
        have e0 : nc' = [] := by
          have : nc'.length = 0 := by rw [← hnc.1, hncl, hn]; simp
          exact List.length_eq_zero_iff.1 this
        subst e0
        have := run_append_room (ty := ty) (w' := w) hu hi hd hdk (some a) len c n x' w [] hl (by simpa using hnew) (by omega) (fun a h => by simp [storeCells]) (fun h => by cases h)
        subst hn
        exact ⟨_, m, w, this, .sl hm h3 h4 h5, Step.refl hr⟩
      · rename_i hn
        split at h
        · rename_i hcu
          split at h
          · rename_i hroom
            split at h
            · rename_i e' cs hg
              obtain ⟨hone, hin, h⟩ := h
              refine ⟨_, _, h, AExt.set H id _ (by rw [AHeap.hot, hg]; trivial), fun m w s' x' ty hr hfr hs hxx => ?_⟩
              obtain ⟨l, a, c, hm, rfl, h3, h4, h5⟩ := hs.sl_inv
              cases h4 hcu
              obtain ⟨nc', hl, hnc, hf⟩ := hN m w x' hr hxx
              have hnew := hf w (fun _ _ _ h => h) n (Nat.le_refl _)
              have hncl' : nc'.length = n * i.size := by rw [← hnc.1, hncl]
              rw [List.take_of_length_le (by omega)] at hnew
              rcases h5 with ⟨rfl, h5⟩ | rfl
              · have hle : off + len * i.size + nc.length ≤ cs.length := by rw [hncl]; rw [Nat.add_mul] at hin; omega
                have S := Step.cells hr hm hg (off + len * i.size) nc nc' hnc hle
                obtain ⟨a1, a2, a3, a4⟩ := hr.rw id l e' cs hm hg
                have hst := run_storeCells_cells (P := P) l.blk (l.at_ + off + len * i.size) nc' 0 w
                  (fun j hj => by
                    have := (a4 (off + len * i.size + j) (by omega)).1
                    rw [show l.at_ + (off + len * i.size + j) = l.at_ + off + len * i.size + 0 + j by omega] at this; exact this)
                  (fun j hj => by
                    have := (a4 (off + len * i.size + j) (by omega)).2
                    rw [show l.at_ + (off + len * i.size + j) = l.at_ + off + len * i.size + 0 + j by omega] at this; exact this) (hnc.one hone)
                rw [Nat.add_zero] at hst
                have R := run_append_room (ty := ty) (w' := w.setCells l.blk (l.at_ + off + len * i.size) nc') hu hi hd hdk (some ⟨l.blk, l.at_ + off, none⟩) len cap n x' w nc' hl hnew hroom
                  (fun a h => by cases h; rw [addr_add]; exact hst) (fun h => by cases h)
                refine ⟨_, m, _, R, .sl hm hroom (fun _ => rfl) (.inl ⟨rfl, h5⟩), ?_⟩
                rw [← Nat.add_assoc] at S
                exact S
              · omega
            · exact h.elim
          · rename_i hroom
            split at h
            · rename_i cs hc
              obtain ⟨hin, h⟩ := h
              refine ⟨_, _, h, (AKeep.push _ _).ext, fun m w s' x' ty hr hfr hs hxx => ?_⟩
              obtain ⟨l, a, c, hm, rfl, h3, h4, h5⟩ := hs.sl_inv
              cases h4 hcu
              obtain ⟨nc', hl, hnc, hf⟩ := hN m w x' hr hxx
              obtain ⟨cs', b1, b2, b3, b4⟩ := hr.run_cells (P := P) hm hc off (len * i.size) hin
              have hfo : (Builtin.firstCells i.size len (.slice (some a) len cap)).run P w.drew = .ok cs'.toArray w.drew := by
                rcases h5 with ⟨rfl, _⟩ | rfl
                · have := run_loadCells_list (P := P) w.drew ⟨l.blk, l.at_ + off, none⟩ cs' (fun j v hj => by rw [addr_add]; exact b4 j v hj)
                  rw [b3] at this
                  simpa [Builtin.firstCells] using this
                · have : len = 0 := by omega
                  subst this
                  have e0 : cs' = [] := List.length_eq_zero_iff.1 (by simpa using b3)
                  subst e0
                  have := run_loadCells_list (P := P) w.drew a [] (fun j v hj => by simp at hj)
                  simpa [Builtin.firstCells] using this
              exact mkNew (some a) len cap _ m w cs' nc' x' ty hr hfr.push hl hf hnc b2 (by simp; omega) hfo (by omega) h1' (by omega)
            · exact h.elim
        · rename_i hcu
          split at h
          · rename_i e' cs hg
            obtain ⟨rfl, hone, hin, h⟩ := h
            have hhot : H.hot id := by rw [AHeap.hot, hg]; trivial
            refine ⟨_, _, h, (AExt.set H id _ hhot).trans (AKeep.push _ _).ext, fun m w s' x' ty hr hfr hs hxx => ?_⟩
            obtain ⟨l, a, c, hm, rfl, h3, h4, h5⟩ := hs.sl_inv
            obtain ⟨nc', hl, hnc, hf⟩ := hN m w x' hr hxx
            have hncl' : nc'.length = n * i.size := by rw [← hnc.1, hncl]
            have hc : (H.get id).cells? = some cs := by rw [hg]; rfl
            have hfs : m H.size = none := by exact hfr _ (Nat.le_refl _) (by rw [size_push, size_set]; omega)
            by_cases hroom : len + n ≤ c
            · have hnew := hf w (fun _ _ _ h => h) n (Nat.le_refl _)
              rw [List.take_of_length_le (by omega)] at hnew
              rcases h5 with ⟨rfl, h5⟩ | rfl
              · obtain ⟨a1, a2, a3, a4⟩ := hr.rw id l i.size cs hm hg
                have hcm : (len + n) * i.size ≤ c * i.size := Nat.mul_le_mul_right _ hroom
                rw [Nat.add_mul] at hcm
                rw [a1] at h5
                have S := Step.grow hr hfs hm hg off (len * i.size) nc nc' hin hnc (by omega)
                have hst := run_storeCells_cells (P := P) l.blk (l.at_ + off + len * i.size) nc' 0 w
                  (fun j hj => by
                    have := (a4 (off + len * i.size + j) (by omega)).1
                    rw [show l.at_ + (off + len * i.size + j) = l.at_ + off + len * i.size + 0 + j by omega] at this; exact this)
                  (fun j hj => by
                    have := (a4 (off + len * i.size + j) (by omega)).2
                    rw [show l.at_ + (off + len * i.size + j) = l.at_ + off + len * i.size + 0 + j by omega] at this; exact this) (hnc.one hone)
                rw [Nat.add_zero] at hst
                have R := run_append_room (ty := ty) (w' := w.setCells l.blk (l.at_ + off + len * i.size) nc') hu hi hd hdk (some ⟨l.blk, l.at_ + off, none⟩) len c n x' w nc' hl hnew hroom
                  (fun a h => by cases h; rw [addr_add]; exact hst) (fun h => by cases h)
                refine ⟨_, _, _, R, .sl (Map.put_same _ _ _) hroom (fun h => absurd h (by simp)) (.inl ⟨rfl, ?_⟩), S⟩
                simp only
                omega
              · omega
            · -- it grows: the old row lives on, but is told dead
              obtain ⟨cs', b1, b2, b3, b4⟩ := hr.run_cells (P := P) hm hc off (len * i.size) hin
              have hfo : (Builtin.firstCells i.size len (.slice (some a) len c)).run P w.drew = .ok cs'.toArray w.drew := by
                rcases h5 with ⟨rfl, _⟩ | rfl
                · have := run_loadCells_list (P := P) w.drew ⟨l.blk, l.at_ + off, none⟩ cs' (fun j v hj => by rw [addr_add]; exact b4 j v hj)
                  rw [b3] at this
                  simpa [Builtin.firstCells] using this
                · have : len = 0 := by omega
                  subst this
                  have e0 : cs' = [] := List.length_eq_zero_iff.1 (by simpa using b3)
                  subst e0
                  have := run_loadCells_list (P := P) w.drew a [] (fun j v hj => by simp at hj)
                  simpa [Builtin.firstCells] using this
              obtain ⟨v', m', w', R, hv, S⟩ := mkNew (some a) len c _ m w cs' nc' x' ty hr hfs hl hf hnc b2 (by simp; omega) hfo (by omega) h1' (by omega)
              have hid : id < H.size := lt_of_hot hhot
              refine ⟨v', m', w', R, hv, ?_⟩
              have ecomm : (H.set id .dead).push (.rw i.size ((cs.drop off).take (len * i.size) ++ nc)) = (H.push (.rw i.size ((cs.drop off).take (len * i.size) ++ nc))).set id .dead := by
                simp only [AHeap.set, AHeap.push, AHeap.size] at *
                rw [List.set_append_left _ _ hid]
              rw [ecomm]
              refine Step.trans (fun id h1 h2 => by rw [size_set, size_push] at h2; rw [show id = H.size by omega]; exact hfs) S (Step.write S.rel (S.ext id l hm) ?_ .dead (fun _ _ => rfl) rfl rfl rfl rfl (fun _ _ h => by cases h) (fun _ _ h => by cases h) (fun _ h => by cases h))
              rw [AHeap.hot, get_push_lt H _ id hid, hg]; trivial
          · exact h.elim
    · exact h.elim
  · exact h.elim

end Go.Ah

/- The model's operations do to the world what aOp does to the abstract heap: all of them. -/
namespace Go.Ah
variable {P : Program}

/-- Operations that turn nothing that was there (calls aside). -/
def quietOp : Op → Bool
  | .store .. | .mapUpdate .. | .call _ => false
  | _ => true

def oOk (n : Nat) (o : Oper) : Bool := o.op.operands.all (tmpsOk n)

theorem wp_value {o : Oper} {a : Act} {w w' : World} {v : Value} {next : Act → World → Prop} {Q : Exit → Act → World → Prop} (h : (execOp a.eval o).run P w = .ok (.value v) w') (k : next (a.put o.dst v) w') : o.wp P a w next Q := by
  unfold Oper.wp; rw [h]; exact k
theorem wp_skipped {o : Oper} {a : Act} {w w' : World} {next : Act → World → Prop} {Q : Exit → Act → World → Prop} (h : (execOp a.eval o).run P w = .ok .skip w') (k : next (a.put o.dst undef) w') : o.wp P a w next Q := by
  unfold Oper.wp; rw [h]; exact k

theorem VRel.func_inv {m : Map} {f : Fn} {xs us : Array Value} {v : Value} (h : VRel m (.func f xs us) v) : ∃ ys vs, v = .func f ys vs ∧ VRels m xs ys ∧ VRels m us vs := by
  cases h with
  | func _ a b c d => exact ⟨_, _, rfl, ⟨a, b⟩, ⟨c, d⟩⟩
theorem VRel.agg_inv {m : Map} {xs : Array Value} {v : Value} (h : VRel m (.agg xs) v) : ∃ ys, v = .agg ys ∧ VRels m xs ys := by
  cases h with
  | agg a b => exact ⟨_, rfl, ⟨a, b⟩⟩
theorem VRel.tuple_inv {m : Map} {xs : Array Value} {v : Value} (h : VRel m (.tuple xs) v) : ∃ ys, v = .tuple ys ∧ VRels m xs ys := by
  cases h with
  | tuple a b => exact ⟨_, rfl, ⟨a, b⟩⟩

theorem VRels.append {m : Map} {xs ys us vs : Array Value} (h : VRels m xs ys) (k : VRels m us vs) : VRels m (xs ++ us) (ys ++ vs) :=
  VRelL.array (by simpa using h.list.append k.list)

theorem PRel_map {m : Map} {n : Nat} {σ : Slots} {a : Act} (ht : TRel m n σ a.tmps) : ∀ (ps : List (Nat × Operand)), (∀ p ∈ ps, tmpsOk n p.2 = true) → PRel m (ps.map fun p => (p.1, evO σ p.2)) (ps.map fun p => (p.1, a.eval p.2))
  | [], _ => trivial
  | p :: r, h => ⟨rfl, EvRel ht (h p (by simp)), PRel_map ht r fun q hq => h q (by simp [hq])⟩

theorem ORel_map {m : Map} {n : Nat} {σ : Slots} {a : Act} (ht : TRel m n σ a.tmps) {x : Option Operand} (h : ∀ y, x = some y → tmpsOk n y = true) : ORel m (x.map (evO σ)) (x.map a.eval) := by
  cases x with
  | none => trivial
  | some y => exact EvRel ht (h y rfl)

theorem aUn_sound {op : UnOp} {x : Value} {K : Value → Prop} (h : aUn op x K) : ∃ v, K v ∧ (∀ m, VRel m v v) ∧ ∀ m w x', VRel m x x' → (Op.unary op x').run P w = .ok v w := by
  unfold aUn at h
  split at h
  · exact ⟨_, h, fun m => .bool _, fun m w x' hx => by cases hx.bool_inv; rfl⟩
  · exact ⟨_, h, fun m => .int _ _, fun m w x' hx => by cases hx.int_inv; rfl⟩
  · exact h.elim

theorem aConv_sound {src dst : TypeId} {x : Value} {K : Value → Prop} (h : aConv P src dst x K) : ∃ v, K v ∧ (∀ m, VRel m v v) ∧ ∀ m w x', VRel m x x' → (convert src dst x').run P w = .ok v w := by
  unfold aConv at h
  split at h
  · rename_i d k k' n h1 h2
    exact ⟨_, h, fun m => .int _ _, fun m w x' hx => by cases hx.int_inv; simp [convert, run_underlying h1, run_underlying h2, Conv.intToInt]⟩
  · rename_i d s h1 h2
    exact ⟨_, h, fun m => .string _, fun m w x' hx => by cases hx.str_inv; simp [convert, run_underlying h1, run_underlying h2]⟩
  · exact h.elim

theorem aLen_sound {H : AHeap} {t : TypeId} {x : Value} {K : Value → Prop} (h : aLen P H t x K) :
    ∃ v, K v ∧ (∀ m, VRel m v v) ∧ ∀ m w x' ty, Rel m H w → VRel m x x' → (Builtin.len_ #[t] ty #[x']).run P w = .ok v w := by
  unfold aLen at h
  split at h
  · rename_i s hu
    exact ⟨_, h, fun m => .int _ _, fun m w x' ty hr hx => by cases hx.str_inv; simp [Builtin.len_, run_underlying hu, goInt]⟩
  · rename_i e a n c hu
    refine ⟨_, h, fun m => .int _ _, fun m w x' ty hr hx => ?_⟩
    obtain ⟨a', c', rfl, _⟩ := isNone_slice hx
    simp [Builtin.len_, run_underlying hu, goInt]
  · rename_i n e hu
    exact ⟨_, h, fun m => .int _ _, fun m w x' ty hr hx => by simp [Builtin.len_, run_underlying hu, goInt]⟩
  · rename_i kt et hu
    exact ⟨_, h, fun m => .int _ _, fun m w x' ty hr hx => by cases hx; simp [Builtin.len_, run_underlying hu, goInt]⟩
  · rename_i kt et id hu
    split at h
    · rename_i es hg
      refine ⟨_, h, fun m => .int _ _, fun m w x' ty hr hx => ?_⟩
      obtain ⟨l, hm, rfl⟩ := hx.map_inv
      obtain ⟨es', clk, h1, h2, _⟩ := hr.mp id l es hm hg
      simp [Builtin.len_, run_underlying hu, goInt, getObj, Sem.run, h1, h2]
    · exact h.elim
  · exact h.elim

theorem aMaxMin_sound {b : Bool} {xs : List Value} {K : Value → Prop} (h : aMaxMin b xs K) :
    ∃ v, K v ∧ (∀ m, VRel m v v) ∧ ∀ m w (xs' : Array Value) ts ty, VRelL m xs xs'.toList → (if b then Builtin.max_ ts ty xs' else Builtin.min_ ts ty xs').run P w = .ok v w := by
  unfold aMaxMin at h
  split at h
  · rename_i k x k' y
    obtain ⟨rfl, h⟩ := h
    refine ⟨_, h, fun m => .int _ _, fun m w xs' ts ty hx => ?_⟩
    obtain ⟨a, r, e1, h1, h2⟩ := hx.cons_inv
    obtain ⟨a2, r2, e2, h3, h4⟩ := h2.cons_inv
    cases h4.nil_inv; cases h1.int_inv; cases h3.int_inv; subst e2
    have e : xs' = #[.int k x, .int k y] := by cases xs'; simp_all
    subst e
    cases b with
    | true =>
      simp only [if_true, Builtin.max_, List.foldlM_cons, List.foldlM_nil, Builtin.max2, Sem.run_bind, Sem.run_pure, Result.andThen_ok]
      congr 2
      rw [Int.max_def]
      split <;> split <;> omega
    | false =>
      simp only [Bool.false_eq_true, if_false, Builtin.min_, List.foldlM_cons, List.foldlM_nil, Builtin.min2, Sem.run_bind, Sem.run_pure, Result.andThen_ok]
      congr 2
      rw [Int.min_def]
      split <;> split <;> omega
  · exact h.elim

theorem list1 {α : Type} {xs : Array α} {a : α} (h : xs.toList = [a]) : xs = #[a] := by cases xs; simp_all
theorem list2 {α : Type} {xs : Array α} {a b : α} (h : xs.toList = [a, b]) : xs = #[a, b] := by cases xs; simp_all

theorem aBuiltin_sound {H : AHeap} {b : Builtin} {ts : Array TypeId} {xs : List Value} {K : Value → AHeap → Prop} (h : aBuiltin P H b ts.toList xs K) :
    ∃ v H', K v H' ∧ AExt H H' ∧ ∀ m w (xs' : Array Value) ty cs, Rel m H w → Free m H H' → VRelL m xs xs'.toList → ∃ v' m' w', (builtin b ts ty cs xs').run P w = .ok (.value v') w' ∧ VRel m' v v' ∧ Step m H w m' H' w' := by
  unfold aBuiltin at h
  split at h
  · rename_i t x hts
    obtain ⟨v, hK, hv, hs⟩ := aLen_sound h
    refine ⟨v, H, hK, AExt.refl H, fun m w xs' ty cs hr hfr hx => ⟨v, m, w, ?_, hv m, Step.refl hr⟩⟩
    obtain ⟨x', r, e, h1, h2⟩ := hx.cons_inv
    cases h2.nil_inv
    rw [list1 e, list1 hts]
    simp only [builtin, Sem.run_bind, hs m w x' ty hr h1, Result.andThen_ok, Sem.run_pure]
  · rename_i t1 t2 s x hts
    obtain ⟨v, H', hK, hext, hs⟩ := aAppend_sound h
    refine ⟨v, H', hK, hext, fun m w xs' ty cs hr hfr hx => ?_⟩
    obtain ⟨s', r, e, h1, h2⟩ := hx.cons_inv
    obtain ⟨x', r2, e2, h3, h4⟩ := h2.cons_inv
    cases h4.nil_inv
    subst e2
    obtain ⟨v', m', w', h5, h6, h7⟩ := hs m w s' x' ty hr hfr h1 h3
    refine ⟨v', m', w', ?_, h6, h7⟩
    rw [list2 e, list2 hts]
    simp only [builtin, Sem.run_bind, h5, Result.andThen_ok, Sem.run_pure]
  · obtain ⟨v, hK, hv, hs⟩ := aMaxMin_sound (P := P) h
    refine ⟨v, H, hK, AExt.refl H, fun m w xs' ty cs hr hfr hx => ⟨v, m, w, ?_, hv m, Step.refl hr⟩⟩
    have := hs m w xs' ts ty hx
    simp only [if_true] at this
    simp only [builtin, Sem.run_bind, this, Result.andThen_ok, Sem.run_pure]
  · obtain ⟨v, hK, hv, hs⟩ := aMaxMin_sound (P := P) h
    refine ⟨v, H, hK, AExt.refl H, fun m w xs' ty cs hr hfr hx => ⟨v, m, w, ?_, hv m, Step.refl hr⟩⟩
    have := hs m w xs' ts ty hx
    simp only [Bool.false_eq_true, if_false] at this
    simp only [builtin, Sem.run_bind, this, Result.andThen_ok, Sem.run_pure]
  · exact h.elim

/-- A step of the machine that gives a value, over whatever world. -/
theorem cellsOf_struct {t : TypeId} {fs : Array Field} {ps : List (Nat × Nat)} {z : Value} (hu : P.underlying t = some (.struct fs)) (hp : tPlaces P t = some ps) (hz : tZero P t = some z) (parts : List (Nat × Value)) :
    P.built t parts = Instr.fill (fun i => ps[i]?) z.cells parts := by
  obtain ⟨i, h1, h2⟩ := tZero_some hz
  unfold tPlaces at hp
  rw [hu] at hp
  simp only at hp
  unfold Program.built
  simp only [h1, hu, h2, hp]
  congr 1
  funext x
  simp
theorem cellsOf_array {t e : TypeId} {len n : Nat} {z : Value} (hu : P.underlying t = some (.array len e)) (hn : tSz P e = some n) (hz : tZero P t = some z) (parts : List (Nat × Value)) :
    P.built t parts = Instr.fill (fun i => some (i * n, n)) z.cells parts := by
  obtain ⟨i, h1, h2⟩ := tZero_some hz
  obtain ⟨j, h3, h4⟩ := tSz_some hn
  unfold Program.built
  simp only [h1, hu, h2, h3, h4]

end Go.Ah

/- The model's operations do to the world what aOp does to the abstract heap: the one theorem. -/
namespace Go.Ah
variable {P : Program}

theorem list_any {α : Type} {xs : Array α} {p : α → Bool} (h : xs.all p = true) : ∀ x ∈ xs.toList, p x = true := by
  intro x hx
  rw [← Array.all_toList] at h
  exact List.all_eq_true.1 h x hx

theorem opt_all {α : Type} {lo : Option α} {p : α → Bool} (h : ∀ (i : Nat) (x : i < lo.toArray.size), p lo.toArray[i] = true) : ∀ y, lo = some y → p y = true := by
  intro y e
  subst e
  exact h 0 (by simp)

theorem andThen_bind {α : Type} {r : Result α} {f : α → World → Result Value} {v : Value} {w' : World} (h : r.andThen f = .ok v w') :
    (r.andThen fun a w => (f a w).andThen fun v w => Result.ok (Next.value v) w) = .ok (Next.value v) w' := by
  cases r with
  | ok a w => simp at h ⊢; rw [h]; rfl
  | halt x w => simp at h

theorem Invokes.run {f : FuncId} {args : Array Value} {w : World} {R : Value → World → Prop} (h : Invokes P f args w R) {o : Oper} {a : Act} {next : Act → World → Prop} {Q : Exit → Act → World → Prop}
    (he : (execOp a.eval o).run P w = (callFunc f args).run P w) (hn : ∀ v w', R v w' → next (a.put o.dst v) w') : o.wp P a w next Q := by
  unfold Oper.wp
  rw [he]
  unfold Invokes at h
  split at h
  · rename_i v w' e; rw [e]; exact hn _ _ h
  · rename_i f' args' w' e
    rw [e]
    refine Calls.mono h fun e w'' he => ?_
    cases e with
    | returned v => exact hn _ _ he
    | panicked c => exact he.elim
    | outgrown => exact he.elim
  · exact h.elim

theorem upon_fix {o : Oper} {a : Act} {w w' : World} {v v' : Value} {m m' : Map} {H H' : AHeap} (h : (execOp a.eval o).run P w = .ok (.value v') w') (hv : VRel m' v v') (hs : Step m H w m' H' w') (Q : Exit → Act → World → Prop) :
    o.wp P a w (fun a' w' => ∃ v' m', a' = a.put o.dst v' ∧ VRel m' v v' ∧ Step m H w m' H' w') Q :=
  wp_value h ⟨v', m', rfl, hv, hs⟩

theorem aOp_sound {n : Nat} {σ : Slots} {H : AHeap} {o : Oper} {K : Value → AHeap → Prop} (hok : oOk n o = true) (h : aOp P σ H o K) :
    ∃ v H', K v H' ∧ AExt H H' ∧ (quietOp o.op = true → AKeep H H') ∧ ∀ m w a, Rel m H w → Free m H H' → TRel m n σ a.tmps → ∀ Q,
      o.wp P a w (fun a' w' => ∃ v' m', a' = a.put o.dst v' ∧ VRel m' v v' ∧ Step m H w m' H' w') Q := by
  obtain ⟨dst, op, type, pos, after, guard⟩ := o
  have pureOp : ∀ (v : Value) (op' : Op), op' = op → (∀ m w (a : Act), Rel m H w → TRel m n σ a.tmps → ∃ v', (execOp a.eval ⟨dst, op, type, pos, after, guard⟩).run P w = .ok (.value v') w ∧ VRel m v v') →
      (∀ m w (a : Act), Rel m H w → Free m H H → TRel m n σ a.tmps → ∀ Q, (⟨dst, op, type, pos, after, guard⟩ : Oper).wp P a w (fun a' w' => ∃ v' m', a' = a.put dst v' ∧ VRel m' v v' ∧ Step m H w m' H w') Q) := by
    intro v op' _ hp m w a hr _ ht Q
    obtain ⟨v', h1, h2⟩ := hp m w a hr ht
    exact upon_fix h1 h2 (Step.refl hr) Q
  cases op <;> simp only [aOp] at h <;> try exact h.elim
  case move x =>
    simp only [oOk, Op.operands] at hok
    have hx : tmpsOk n x = true := by simpa using hok
    exact ⟨_, _, h, AExt.refl H, fun _ => AKeep.refl H, pureOp _ _ rfl fun m w a hr ht => ⟨_, rfl, EvRel ht hx⟩⟩
  case assign x =>
    simp only [oOk, Op.operands] at hok
    have hx : tmpsOk n x = true := by simpa using hok
    exact ⟨_, _, h, AExt.refl H, fun _ => AKeep.refl H, pureOp _ _ rfl fun m w a hr ht => ⟨_, rfl, EvRel ht hx⟩⟩
  case pick c x y =>
    simp [oOk, Op.operands] at hok
    obtain ⟨h1, h2, h3⟩ := hok
    split at h
    · rename_i t ht0
      refine ⟨_, _, h, AExt.refl H, fun _ => AKeep.refl H, pureOp _ _ rfl fun m w a hr ht => ?_⟩
      have hc := EvRel ht h1
      rw [ht0] at hc
      have hc' := hc.bool_inv
      refine ⟨if t then a.eval x else a.eval y, by simp [execOp, hc', asBool], ?_⟩
      cases t
      · exact EvRel ht h3
      · exact EvRel ht h2
    · exact h.elim
  case alloc e =>
    split at h
    · rename_i z hz
      obtain ⟨hp, h⟩ := h
      refine ⟨_, _, h, (AKeep.push _ _).ext, fun _ => AKeep.push _ _, fun m w a hr hfr ht Q => ?_⟩
      have S := Step.alloc (t := e) hr hfr.push z.cells.size z.cells.toList z.cells (by simp) (by rw [List.take_of_length_le (Nat.le_refl _)]; exact VRelL.plain (plain_cells hp))
      refine upon_fix (v' := .pointer (some ⟨w.heap.size, 0, none⟩)) ?_ (VRel.ptr (l := ⟨w.heap.size, 0, z.cells.size, z.cells.size⟩) (Map.put_same _ _ _)) S Q
      simp [execOp, Instr.alloc, run_zero hz, newVar, newRow]
    · exact h.elim
  case box e x =>
    simp only [oOk, Op.operands] at hok
    have hx : tmpsOk n x = true := by simpa using hok
    refine ⟨_, _, h, (AKeep.push _ _).ext, fun _ => AKeep.push _ _, fun m w a hr hfr ht Q => ?_⟩
    have hv := (EvRel ht hx).cells
    have hlen : (evO σ x).cells.toList.length = (a.eval x).cells.toList.length := hv.1
    have S := Step.alloc (t := e) hr hfr.push (evO σ x).cells.size (evO σ x).cells.toList (a.eval x).cells (by rw [hlen]; simp) (by rw [List.take_of_length_le (by omega)]; exact hv)
    refine upon_fix (v' := .pointer (some ⟨w.heap.size, 0, none⟩)) ?_ (VRel.ptr (Map.put_same _ _ _)) S Q
    simp [execOp, Instr.box, newVar, newRow]
  case build t parts =>
    have hps : ∀ p ∈ parts.toList, tmpsOk n p.2 = true := by
      intro p hp
      simp only [oOk, Op.operands] at hok
      exact list_any hok p.2 (by simpa using ⟨p.1, by simpa using hp⟩)
    split at h
    · rename_i fs hu
      split at h
      · rename_i ps z hpl hz
        obtain ⟨hp, h⟩ := h
        obtain ⟨out, hK, hlen, hf⟩ := aFill_sound _ _ h
        refine ⟨_, _, hK, AExt.refl H, fun _ => AKeep.refl H, pureOp _ _ rfl fun m w a hr ht => ?_⟩
        obtain ⟨out', h1, h2⟩ := hf m z.cells _ (VRelL.plain (plain_cells hp)) (PRel_map ht parts.toList hps)
        rw [← cellsOf_struct hu hpl hz] at h1
        refine ⟨.agg out', ?_, .agg' (VRelL.array (by simpa using h2))⟩
        have := run_build (P := P) w t (parts.map fun (i, x) => (i, a.eval x)) out' (by simpa using h1)
        simp only [execOp, Sem.run_bind, this, Result.andThen_ok, Sem.run_pure]
      · exact h.elim
    · rename_i len e hu
      split at h
      · rename_i sz z hpl hz
        obtain ⟨hp, h⟩ := h
        obtain ⟨out, hK, hlen, hf⟩ := aFill_sound _ _ h
        refine ⟨_, _, hK, AExt.refl H, fun _ => AKeep.refl H, pureOp _ _ rfl fun m w a hr ht => ?_⟩
        obtain ⟨out', h1, h2⟩ := hf m z.cells _ (VRelL.plain (plain_cells hp)) (PRel_map ht parts.toList hps)
        rw [← cellsOf_array hu hpl hz] at h1
        refine ⟨.agg out', ?_, .agg' (VRelL.array (by simpa using h2))⟩
        have := run_build (P := P) w t (parts.map fun (i, x) => (i, a.eval x)) out' (by simpa using h1)
        simp only [execOp, Sem.run_bind, this, Result.andThen_ok, Sem.run_pure]
      · exact h.elim
    · exact h.elim
  case buildSlice t len parts =>
    have hps : ∀ p ∈ parts.toList, tmpsOk n p.2 = true := by
      intro p hp
      simp only [oOk, Op.operands] at hok
      exact list_any hok p.2 (by simpa using ⟨p.1, by simpa using hp⟩)
    split at h
    · rename_i sz by_ z hte
      obtain ⟨hp, hzs, h0, hbig, h⟩ := h
      obtain ⟨e, i, hu, hi, hx⟩ := tElem_some hte
      simp only [Prod.mk.injEq] at hx
      obtain ⟨rfl, rfl, hz⟩ := hx
      obtain ⟨out, hK, hlen, hf⟩ := aFill_sound _ _ h
      refine ⟨_, _, hK, (AKeep.push _ _).ext, fun _ => AKeep.push _ _, fun m w a hr hfr ht Q => ?_⟩
      obtain ⟨out', h1, h2⟩ := hf m ((Array.range (len * i.size)).map (z.cells[· % z.cells.size]!)) _ (by rw [rep_eq z.cells len i.size hzs h0]; exact rep_rel (plain_cells hp) _) (PRel_map ht parts.toList hps)
      have hol : out.length = out'.size := by have := h2.1; simpa using this
      have hcl : out.length = len * i.size := by rw [hlen, rep_length]; simp [hzs]
      have S := Step.alloc (t := e) hr hfr.push i.size out out' (by omega) (by rw [List.take_of_length_le (by simp; omega)]; exact h2)
      refine upon_fix (v' := .slice (some ⟨w.heap.size, 0, none⟩) len len) ?_ (.sl (Map.put_same _ _ _) (Nat.le_refl _) (fun _ => rfl) (.inl ⟨rfl, by simp only; omega⟩)) S Q
      have c1 : ¬ (16777216 < len * i.size) := by omega
      have hpm : (parts.map fun (i, x) => (i, a.eval x)).toList = parts.toList.map fun p => (p.1, a.eval p.2) := by simp
      rw [← hpm] at h1
      by_cases hz0 : len * i.size = 0
      · have e0 : (Array.range (len * i.size)).map (z.cells[· % z.cells.size]!) = #[] := by rw [hz0]; simp [show Array.range 0 = #[] from rfl]
        rw [e0] at h1
        have e1 : (Array.range (len * i.size)).map (fun x => (#[] : Array Value)[x % (#[] : Array Value).size]!) = #[] := by rw [hz0]; simp [show Array.range 0 = #[] from rfl]
        simp only [execOp, Instr.buildSlice, Sem.run_bind, run_underlying hu, Result.andThen_ok, run_sizeOf' hi, gt_iff_lt, show (2 : Nat) ^ 24 = 16777216 from rfl, if_neg c1, if_pos hz0, Sem.run_pure, e1, h1, newRow, run_newObj, World.alloc_eq]
      · simp only [execOp, Instr.buildSlice, Sem.run_bind, run_underlying hu, Result.andThen_ok, run_sizeOf' hi, gt_iff_lt, show (2 : Nat) ^ 24 = 16777216 from rfl, if_neg c1, if_neg hz0, Sem.run_pure, run_zero (P := P) (t := e) (z := z) (by simp [tZero, hi, ← hz]), h1, newRow, run_newObj, World.alloc_eq]
    · exact h.elim
  case load t x =>
    simp only [oOk, Op.operands] at hok
    have hx : tmpsOk n x = true := by simpa using hok
    obtain ⟨v, hK, hs⟩ := aLoad_sound h
    refine ⟨v, H, hK, AExt.refl H, fun _ => AKeep.refl H, pureOp _ _ rfl fun m w a hr ht => ?_⟩
    obtain ⟨v', h1, h2⟩ := hs m w _ hr (EvRel ht hx)
    exact ⟨v', by simp [execOp, h1], h2⟩
  case store t x y =>
    simp [oOk, Op.operands] at hok
    obtain ⟨H', hK, hext, hs⟩ := aStore_sound h
    refine ⟨_, H', hK, hext, fun h => by simp [quietOp] at h, fun m w a hr hfr ht Q => ?_⟩
    obtain ⟨w', h1, h2⟩ := hs m w _ _ hr (EvRel ht hok.1) (EvRel ht hok.2)
    exact wp_skipped (w' := w') (by simp [execOp, h1]) ⟨_, m, rfl, VRel.undef m, h2⟩
  case nilCheck x =>
    simp only [oOk, Op.operands] at hok
    have hx : tmpsOk n x = true := by simpa using hok
    split at h
    · rename_i ad he
      refine ⟨_, _, h, AExt.refl H, fun _ => AKeep.refl H, pureOp _ _ rfl fun m w a hr ht => ?_⟩
      have := EvRel ht hx
      rw [he] at this
      obtain ⟨a', e, hn⟩ := isNone_rel this
      cases a' with
      | none => simp at hn
      | some a' => exact ⟨a.eval x, by rw [e]; simp [execOp, e], this⟩
    · rename_i f xs ys he
      refine ⟨_, _, h, AExt.refl H, fun _ => AKeep.refl H, pureOp _ _ rfl fun m w a hr ht => ?_⟩
      have := EvRel ht hx
      rw [he] at this
      obtain ⟨xs', ys', e, _⟩ := this.func_inv
      exact ⟨a.eval x, by simp [execOp, e], this⟩
    · exact h.elim
  case binOp bop t x y yt =>
    simp [oOk, Op.operands] at hok
    obtain ⟨v, hK, hv, hs⟩ := aBin_sound h
    refine ⟨v, H, hK, AExt.refl H, fun _ => AKeep.refl H, pureOp _ _ rfl fun m w a hr ht => ⟨v, ?_, hv m⟩⟩
    have := hs m w _ _ (EvRel ht hok.1) (EvRel ht hok.2)
    rw [Sem.run_bind] at this
    simp only [execOp, Sem.run_bind]
    rw [← andThen_bind this]
    cases (eqGuard bop t x y (a.eval x) (a.eval y)).run P w <;> rfl
  case unOp uop t x =>
    simp only [oOk, Op.operands] at hok
    have hx : tmpsOk n x = true := by simpa using hok
    obtain ⟨v, hK, hv, hs⟩ := aUn_sound (P := P) h
    refine ⟨v, H, hK, AExt.refl H, fun _ => AKeep.refl H, pureOp _ _ rfl fun m w a hr ht => ⟨v, ?_, hv m⟩⟩
    simp [execOp, hs m w _ (EvRel ht hx)]
  case convert s d x =>
    simp only [oOk, Op.operands] at hok
    have hx : tmpsOk n x = true := by simpa using hok
    obtain ⟨v, hK, hv, hs⟩ := aConv_sound (P := P) h
    refine ⟨v, H, hK, AExt.refl H, fun _ => AKeep.refl H, pureOp _ _ rfl fun m w a hr ht => ⟨v, ?_, hv m⟩⟩
    simp [execOp, hs m w _ (EvRel ht hx)]
  case makeInterface t x =>
    simp only [oOk, Op.operands] at hok
    have hx : tmpsOk n x = true := by simpa using hok
    split at h
    · exact h.elim
    · rename_i d hu hd
      refine ⟨_, _, h, AExt.refl H, fun _ => AKeep.refl H, pureOp _ _ rfl fun m w a hr ht => ⟨_, ?_, .iface t (EvRel ht hx)⟩⟩
      simp only [execOp, Instr.makeInterface, Sem.run_bind, run_underlying hd, Result.andThen_ok]
      cases d <;> first | rfl | exact absurd hd (hu _)
    · exact h.elim
  case makeFunc fn first captured =>
    simp [oOk, Op.operands] at hok
    refine ⟨_, _, h, AExt.refl H, fun _ => AKeep.refl H, pureOp _ _ rfl fun m w a hr ht => ⟨.func fn (first.map a.eval) (captured.map a.eval), rfl, ?_⟩⟩
    have h1 := EvRels (xs := first) ht (Array.all_eq_true.2 hok.1)
    have h2 := EvRels (xs := captured) ht (Array.all_eq_true.2 hok.2)
    exact .func fn h1.1 h1.2 h2.1 h2.2
  case makeMap t r =>
    cases r with
    | some r => exact h.elim
    | none =>
      refine ⟨_, _, h, (AKeep.push _ _).ext, fun _ => AKeep.push _ _, fun m w a hr hfr ht Q => ?_⟩
      refine upon_fix (v' := .map (some w.heap.size)) ?_ (VRel.map (l := ⟨w.heap.size, 0, 0, 0⟩) (Map.put_same _ _ _)) (Step.newMap hr hfr.push) Q
      simp [execOp, Instr.makeMap]
  case makeSlice t l c =>
    simp [oOk, Op.operands] at hok
    obtain ⟨v, H', hK, hk, hs⟩ := aMake_sound h
    refine ⟨v, H', hK, hk.ext, fun _ => hk, fun m w a hr hfr ht Q => ?_⟩
    obtain ⟨v', m', w', h1, h2, h3⟩ := hs m w _ _ hr hfr (EvRel ht hok.1) (EvRel ht hok.2)
    exact upon_fix (by simp [execOp, h1]) h2 h3 Q
  case slice t x lo hi mx =>
    simp [oOk, Op.operands] at hok
    obtain ⟨v, hK, hs⟩ := aSlice_sound h
    refine ⟨v, H, hK, AExt.refl H, fun _ => AKeep.refl H, pureOp _ _ rfl fun m w a hr ht => ?_⟩
    have o1 := ORel_map (x := lo) ht (opt_all hok.1.2.1)
    have o2 := ORel_map (x := hi) ht (opt_all hok.1.2.2)
    have o3 := ORel_map (x := mx) ht (opt_all hok.2)
    obtain ⟨⟨v', h1, h2⟩, h3⟩ := hs m w _ _ _ _ hr (EvRel ht hok.1.1) o1 o2 o3
    refine ⟨v', ?_, h2⟩
    have hsl : (Instr.sliceAt t (a.eval x) (lo.map a.eval) (hi.map a.eval) (mx.map a.eval)).run P w = .ok v' w := by
      cases hu : P.underlying t with
      | none => 
        simp only [Instr.slice, Sem.run_bind, underlying, run_program, Result.andThen_ok, hu] at h1
        simp at h1
      | some d =>
        rw [hu] at h3
        simp only [Instr.sliceAt, Sem.run_bind, run_underlying hu, Result.andThen_ok]
        cases d <;> first | exact h1 | (exact absurd rfl h3)
    simp [execOp, hsl]
  case fieldAddr s x f =>
    simp only [oOk, Op.operands] at hok
    have hx : tmpsOk n x = true := by simpa using hok
    split at h
    · rename_i id off fo sz ag he hf
      obtain ⟨h0, h⟩ := h
      refine ⟨_, _, h, AExt.refl H, fun _ => AKeep.refl H, pureOp _ _ rfl fun m w a hr ht => ?_⟩
      have := EvRel ht hx
      rw [he] at this
      obtain ⟨l, hm, e⟩ := this.ptr_inv
      unfold tField at hf
      split at hf
      · rename_i fs hu
        split at hf
        · rename_i fd hfd
          cases htv : tVar P fd.type with
          | none => simp [htv] at hf
          | some y =>
            obtain ⟨i, d, hi, hd, rfl⟩ := tVar_some htv
            simp [htv] at hf
            obtain ⟨rfl, rfl, rfl⟩ := hf
            refine ⟨.pointer (some ⟨l.blk, l.at_ + (off + fd.offset), none⟩), ?_, .ptr hm⟩
            simp [execOp, Instr.fieldAt, run_underlying hu, hfd, e, Instr.sureAddr, fieldPlace, run_sizeOf' hi, h0, addr_add, Nat.add_assoc]
        · cases hf
      · cases hf
    · exact h.elim
  case field t x f =>
    simp only [oOk, Op.operands] at hok
    have hx : tmpsOk n x = true := by simpa using hok
    split at h
    · rename_i cs fo sz ag he hf
      obtain ⟨v, hK, hfix⟩ := cellsAt_fix h
      refine ⟨v, H, hK, AExt.refl H, fun _ => AKeep.refl H, pureOp _ _ rfl fun m w a hr ht => ?_⟩
      have := EvRel ht hx
      rw [he] at this
      obtain ⟨ys, e, hys⟩ := this.agg_inv
      unfold tField at hf
      split at hf
      · rename_i fs hu
        split at hf
        · rename_i fd hfd
          cases htv : tVar P fd.type with
          | none => simp [htv] at hf
          | some y =>
            simp [htv] at hf
            obtain ⟨rfl, rfl, rfl⟩ := hf
            obtain ⟨u, v', rfl, hp, hvr⟩ := part_run (P := P) htv hys.list hfix w
            exact ⟨v', by simp [execOp, Instr.field, run_underlying hu, hfd, e, asAgg, hp], hvr⟩
        · cases hf
      · cases hf
    · exact h.elim
  case indexAddr t x i =>
    simp [oOk, Op.operands] at hok
    obtain ⟨v, hK, hs⟩ := aIndexAddr_sound h
    refine ⟨v, H, hK, AExt.refl H, fun _ => AKeep.refl H, pureOp _ _ rfl fun m w a hr ht => ?_⟩
    obtain ⟨v', h1, h2⟩ := hs m w _ _ (EvRel ht hok.1) (EvRel ht hok.2)
    exact ⟨v', by simp [execOp, h1], h2⟩
  case index t x i =>
    simp [oOk, Op.operands] at hok
    obtain ⟨v, hK, hs⟩ := aIndex_sound h
    refine ⟨v, H, hK, AExt.refl H, fun _ => AKeep.refl H, pureOp _ _ rfl fun m w a hr ht => ?_⟩
    obtain ⟨v', h1, h2⟩ := hs m w _ _ (EvRel ht hok.1) (EvRel ht hok.2)
    exact ⟨v', by simp [execOp, h1], h2⟩
  case lookup t x k ok =>
    simp [oOk, Op.operands] at hok
    obtain ⟨v, hK, hs⟩ := aLookup_sound h
    refine ⟨v, H, hK, AExt.refl H, fun _ => AKeep.refl H, pureOp _ _ rfl fun m w a hr ht => ?_⟩
    obtain ⟨v', h1, h2⟩ := hs m w _ _ hr (EvRel ht hok.1) (EvRel ht hok.2)
    exact ⟨v', by simp [execOp, h1], h2⟩
  case mapUpdate t x k v =>
    simp [oOk, Op.operands] at hok
    obtain ⟨H', hK, hext, hs⟩ := aMapUpdate_sound h
    refine ⟨_, H', hK, hext, fun h => by simp [quietOp] at h, fun m w a hr hfr ht Q => ?_⟩
    obtain ⟨w', h1, h2⟩ := hs m w _ _ _ hr (EvRel ht hok.1) (EvRel ht hok.2.1) (EvRel ht hok.2.2)
    exact wp_skipped (w' := w') (by simp [execOp, h1]) ⟨_, m, rfl, VRel.undef m, h2⟩
  case extract x i =>
    simp only [oOk, Op.operands] at hok
    have hx : tmpsOk n x = true := by simpa using hok
    split at h
    · rename_i vs he
      obtain ⟨hi, h⟩ := h
      refine ⟨_, _, h, AExt.refl H, fun _ => AKeep.refl H, pureOp _ _ rfl fun m w a hr ht => ?_⟩
      have := EvRel ht hx
      rw [he] at this
      obtain ⟨ys, e, hys⟩ := this.tuple_inv
      have hi' : i < ys.size := by rw [← hys.1]; exact hi
      refine ⟨ys.getD i undef, ?_, hys.2 i hi⟩
      simp [execOp, Instr.extract, e, hi', Array.getD_eq_getD_getElem?]
    · exact h.elim
  case call c =>
    obtain ⟨callee, args, argTypes⟩ := c
    cases callee with
    | invoke r mth => exact h.elim
    | builtin b =>
      simp only at h
      have hargs : args.all (tmpsOk n) = true := by
        simp only [oOk, Op.operands, Call.operands] at hok
        rw [Array.all_append] at hok
        simpa using hok
      obtain ⟨v, H', hK, hext, hs⟩ := aBuiltin_sound h
      refine ⟨v, H', hK, hext, fun h => by simp [quietOp] at h, fun m w a hr hfr ht Q => ?_⟩
      have hr2 := (EvRels ht hargs).list
      obtain ⟨v', m', w', h1, h2, h3⟩ := hs m w (args.map a.eval) type (args.map fun | .const _ => true | _ => false) hr hfr (by simpa using hr2)
      exact upon_fix (by simp only [execOp, resolve, Sem.run_bind, Sem.run_pure, Result.andThen_ok, invoke]; exact h1) h2 h3 Q
    | value f =>
      simp only at h
      split at h
      · rename_i g first captured he
        obtain ⟨r, H', hcall, hK⟩ := h
        have hf : tmpsOk n f = true ∧ args.all (tmpsOk n) = true := by
          simp only [oOk, Op.operands, Call.operands] at hok
          rw [Array.all_append] at hok
          simpa using hok
        refine ⟨r, H', hK, hcall.1, fun h => by simp [quietOp] at h, fun m w a hr hfr ht Q => ?_⟩
        have hfe := EvRel ht hf.1
        rw [he] at hfe
        obtain ⟨ys, vs, e, hy, hv⟩ := hfe.func_inv
        have hargs := EvRels ht hf.2
        have hall := (hy.append hargs).append hv
        refine (hcall.2 m w _ hr hfr hall).run ?_ (fun v' w' ⟨m', h1, h2⟩ => ⟨v', m', rfl, h1, h2⟩)
        simp [execOp, resolve, Deferred.ofValue, e, invoke]
      · exact h.elim

end Go.Ah

/- Regions: what they do to the abstract heap in the text's order, and which orders may be drawn. -/
namespace Go.Ah
variable {P : Program}

def wantedA (ops : Array Oper) (σ : Slots) (o : Oper) : Bool :=
  match o.guard with
  | none => true
  | some (j, want) => match (ops[j]?).bind (·.dst) with
    | some t => match σ t with
      | .bool b => b == want
      | _ => false
    | none => false

/-- Operations that neither read nor turn the heap. -/
def pureOp (P : Program) : Op → Bool
  | .move _ | .assign _ | .pick .. | .binOp .. | .unOp .. | .convert .. | .makeInterface .. | .makeFunc .. | .fieldAddr .. | .field .. | .indexAddr .. | .index .. | .extract .. | .nilCheck _ => true
  | .call c => match c.callee with
    | .builtin .len => match (c.argTypes[0]?).bind P.underlying with
      | some .string | some (.slice _) => true
      | _ => false
    | .builtin .max | .builtin .min => true
    | _ => false
  | _ => false
/-- Operations that read one object. -/
def readOp : Op → Option Operand
  | .load _ a => some a
  | .slice _ x _ _ _ => some x
  | .lookup _ x _ _ => some x
  | _ => none
def objOf : Value → Option Nat
  | .pointer (some a) => some a.block
  | .slice (some a) _ _ => some a.block
  | .map (some r) => some r
  | _ => none

def befMask (o : Oper) (acc : List Nat) : Nat := o.after.toList.foldl (fun s e => if Region.binds .any e then s ||| 2 ^ e.on ||| acc.getD e.on 0 else s) 0
def befMasks : List Oper → List Nat → List Nat
  | [], acc => acc
  | o :: r, acc => befMasks r (acc ++ [befMask o acc])
def cmpB (b : List Nat) (i j : Nat) : Bool := if j < i then (b.getD i 0).testBit j else (b.getD j 0).testBit i
def barrierB (P : Program) (ops : Array Oper) (i : Nat) : Bool :=
  let b := befMasks ops.toList []
  ops.toList.zipIdx.all fun x => x.2 == i || pureOp P x.1.op || cmpB b i x.2
def weakB (P : Program) (ops : Array Oper) (i : Nat) : Bool :=
  let b := befMasks ops.toList []
  ops.toList.zipIdx.all fun x => x.2 == i || pureOp P x.1.op || (readOp x.1.op).isSome || cmpB b i x.2
/-- What is read beside a writing operation. -/
def floatsOf (ops : Array Oper) (i : Nat) : List Operand :=
  let b := befMasks ops.toList []
  ops.toList.zipIdx.filterMap fun x => if x.2 == i || cmpB b i x.2 then none else readOp x.1.op

/-- Modes: 0 in the text's order; 1 drawn, what is written is read by no one beside it; 2 drawn, shown object by object. -/
def drawCond (P : Program) (mode : Nat) (ops : Array Oper) (i : Nat) (o : Op) (H H' : AHeap) : Prop :=
  match mode, o with
  | 1, .call c => (match c.callee with | .builtin .len | .builtin .max | .builtin .min => True | _ => AKeep H H' ∨ barrierB P ops i = true)
  | 2, .call c => (match c.callee with | .builtin .len | .builtin .max | .builtin .min => True | _ => AKeep H H' ∨ weakB P ops i = true)
  | _, _ => True

def accOf (mode : Nat) (o : Op) (i : Nat) (H H' : AHeap) (acc : List (Nat × AHeap × AHeap)) : List (Nat × AHeap × AHeap) :=
  match mode, o with
  | 2, .store .. => (i, H, H') :: acc
  | 2, .mapUpdate .. => (i, H, H') :: acc
  | 2, .call _ => (i, H, H') :: acc
  | _, _ => acc

def floatCond (ops : Array Oper) (acc : List (Nat × AHeap × AHeap)) (σ : Slots) : Prop :=
  ∀ x ∈ acc, ∀ a ∈ floatsOf ops x.1, AKeep x.2.1 x.2.2 ∨ ∀ id, objOf (evO σ a) = some id → x.2.2.get id = x.2.1.get id

def aOpsL (P : Program) (mode : Nat) (ops : Array Oper) (K : Slots → AHeap → Prop) : List Oper → Nat → List (Nat × AHeap × AHeap) → Slots → AHeap → Prop
  | [], _, acc, σ, H => floatCond ops acc σ ∧ K σ H
  | o :: r, i, acc, σ, H => if wantedA ops σ o = true then aOp P σ H o fun v H' => drawCond P mode ops i o.op H H' ∧ aOpsL P mode ops K r (i + 1) (accOf mode o.op i H H' acc) (σ.put o.dst v) H'
      else aOpsL P mode ops K r (i + 1) acc (σ.put o.dst undef) H

/-- The operation tells one answer. -/
theorem aFill_fix {place : Nat → Option (Nat × Nat)} {K : List Value → Prop} : ∀ (parts : List (Nat × Value)) (cs : List Value), aFill place K parts cs → ∃ out, K out ∧ aFill place (fun x => x = out) parts cs
  | [], cs, h => ⟨cs, h, rfl⟩
  | (i, v) :: r, cs, h => by
    simp only [aFill] at h ⊢
    split at h
    · obtain ⟨h1, h2, h⟩ := h
      obtain ⟨out, hK, hf⟩ := aFill_fix r _ h
      exact ⟨out, hK, h1, h2, hf⟩
    · exact h.elim

theorem aInt_fix {op : BinOp} {k : IntKind} {a b : Int} {K : Value → Prop} (h : aInt op k a b K) : ∃ v, K v ∧ aInt op k a b (fun u => u = v) := by
  cases op <;> simp only [aInt] at h ⊢ <;> first | exact h.elim | exact ⟨_, h, rfl⟩ | exact ⟨_, h.2, h.1, rfl⟩
theorem aStr_fix {op : BinOp} {a b : ByteArray} {K : Value → Prop} (h : aStr op a b K) : ∃ v, K v ∧ aStr op a b (fun u => u = v) := by
  cases op <;> simp only [aStr] at h ⊢ <;> first | exact h.elim | exact ⟨_, h, rfl⟩ | exact ⟨_, h.2, h.1, rfl⟩
theorem aEq_fix {t : TypeId} {c : Bool} {x y : Value} {K : Bool → Prop} (h : aEq P t c x y K) : ∃ b, K b ∧ aEq P t c x y (fun u => u = b) := by
  unfold aEq at h ⊢
  split at h <;> first | exact h.elim | exact ⟨_, h, rfl⟩ | exact ⟨_, h.2, h.1, rfl⟩
theorem aBin_fix {op : BinOp} {t : TypeId} {c : Bool} {x y : Value} {K : Value → Prop} (h : aBin P op t c x y K) : ∃ v, K v ∧ aBin P op t c x y (fun u => u = v) := by
  unfold aBin at h ⊢
  split at h
  · exact ⟨_, h.2, h.1, rfl⟩
  · exact ⟨_, h.2, h.1, rfl⟩
  · obtain ⟨v, h1, h2⟩ := aInt_fix h.2; exact ⟨v, h1, h.1, h2⟩
  · exact aStr_fix h
  · obtain ⟨b, h1, h2⟩ := aEq_fix h
    refine ⟨_, h1, ?_⟩
    unfold aEq at h2 ⊢
    split at h2 <;> simp_all
  · obtain ⟨b, h1, h2⟩ := aEq_fix h
    refine ⟨_, h1, ?_⟩
    unfold aEq at h2 ⊢
    split at h2 <;> simp_all
  · exact h.elim

theorem aLoad_fix {H : AHeap} {t : TypeId} {p : Value} {K : Value → Prop} (h : aLoad P H t p K) : ∃ v, K v ∧ aLoad P H t p (fun u => u = v) := by
  unfold aLoad at h ⊢
  split at h
  · split at h
    · exact cellsAt_fix h
    · exact h.elim
  · exact h.elim
theorem aStore_fix {H : AHeap} {t : TypeId} {p x : Value} {K : AHeap → Prop} (h : aStore P H t p x K) : ∃ v, K v ∧ aStore P H t p x (fun u => u = v) := by
  unfold aStore at h ⊢
  split at h
  · split at h
    · exact ⟨_, h.2.2.2, h.1, h.2.1, h.2.2.1, rfl⟩
    · exact h.elim
  · exact h.elim
theorem aUn_fix {op : UnOp} {x : Value} {K : Value → Prop} (h : aUn op x K) : ∃ v, K v ∧ aUn op x (fun u => u = v) := by
  unfold aUn at h ⊢
  split at h <;> first | exact h.elim | exact ⟨_, h, rfl⟩
theorem aConv_fix {s d : TypeId} {x : Value} {K : Value → Prop} (h : aConv P s d x K) : ∃ v, K v ∧ aConv P s d x (fun u => u = v) := by
  unfold aConv at h ⊢
  split at h <;> first | exact h.elim | exact ⟨_, h, rfl⟩
theorem aIndexAddr_fix {t : TypeId} {x i : Value} {K : Value → Prop} (h : aIndexAddr P t x i K) : ∃ v, K v ∧ aIndexAddr P t x i (fun u => u = v) := by
  unfold aIndexAddr at h ⊢
  split at h
  · split at h
    · exact ⟨_, h.2.2, h.1, h.2.1, rfl⟩
    · exact h.elim
  · split at h
    · exact ⟨_, h.2.2, h.1, h.2.1, rfl⟩
    · exact h.elim
  · exact h.elim
theorem aIndex_fix {t : TypeId} {x i : Value} {K : Value → Prop} (h : aIndex P t x i K) : ∃ v, K v ∧ aIndex P t x i (fun u => u = v) := by
  unfold aIndex at h ⊢
  split at h
  · exact ⟨_, h.2.2, h.1, h.2.1, rfl⟩
  · split at h
    · obtain ⟨v, h1, h2⟩ := cellsAt_fix h.2.2
      exact ⟨v, h1, h.1, h.2.1, h2⟩
    · exact h.elim
  · exact h.elim
theorem aSlice_fix {H : AHeap} {t : TypeId} {x : Value} {lo hi mx : Option Value} {K : Value → Prop} (h : aSlice P H t x lo hi mx K) : ∃ v, K v ∧ aSlice P H t x lo hi mx (fun u => u = v) := by
  unfold aSlice at h ⊢
  split at h
  · obtain ⟨h0, h⟩ := h
    split at h
    · exact ⟨_, h.2.2.2, h0, h.1, h.2.1, h.2.2.1, rfl⟩
    · exact h.elim
  · exact ⟨_, h.2.2.2.2, h.1, h.2.1, h.2.2.1, h.2.2.2.1, rfl⟩
  · split at h
    · obtain ⟨a, b, c, h⟩ := h
      split at h
      · exact ⟨_, h.2, a, b, c, h.1, rfl⟩
      · exact ⟨_, h.2.2.2, a, b, c, h.1, h.2.1, h.2.2.1, rfl⟩
      · exact h.elim
    · exact h.elim
  · exact h.elim
theorem aLookup_fix {H : AHeap} {t : TypeId} {x k : Value} {ok : Bool} {K : Value → Prop} (h : aLookup P H t x k ok K) : ∃ v, K v ∧ aLookup P H t x k ok (fun u => u = v) := by
  unfold aLookup at h ⊢
  split at h
  · split at h
    · obtain ⟨a, b, c, h⟩ := h
      split at h
      · exact ⟨_, h, a, b, c, rfl⟩
      · exact ⟨_, h, a, b, c, rfl⟩
      · exact h.elim
    · exact h.elim
  · exact h.elim
theorem aMapUpdate_fix {H : AHeap} {t : TypeId} {x k v : Value} {K : AHeap → Prop} (h : aMapUpdate P H t x k v K) : ∃ H', K H' ∧ aMapUpdate P H t x k v (fun u => u = H') := by
  unfold aMapUpdate at h ⊢
  split at h
  · split at h
    · obtain ⟨a, b, h⟩ := h
      split at h
      · exact ⟨_, h, a, b, rfl⟩
      · exact ⟨_, h, a, b, rfl⟩
      · exact h.elim
    · exact h.elim
  · exact h.elim
theorem aNews_fix {H : AHeap} {t : TypeId} {sz : Nat} {x : Value} {K : List Value → Nat → Prop} (h : aNews P H t sz x K) : ∃ nc n, K nc n ∧ ∀ K', K' nc n → aNews P H t sz x K' := by
  unfold aNews at h ⊢
  split at h
  · exact ⟨_, _, h, fun K' h' => h'⟩
  · split at h
    · exact ⟨_, _, h.2, fun K' h' => ⟨h.1, h'⟩⟩
    · exact h.elim
  · exact ⟨_, _, h.2, fun K' h' => ⟨h.1, h'⟩⟩
  · exact h.elim
theorem aAppend_fix {H : AHeap} {t1 t2 : TypeId} {s x : Value} {K : Value → AHeap → Prop} (h : aAppend P H t1 t2 s x K) : ∃ v H', K v H' ∧ aAppend P H t1 t2 s x (fun a b => a = v ∧ b = H') := by
  unfold aAppend at h ⊢
  split at h
  · obtain ⟨nc, n, h, hN⟩ := aNews_fix h
    split at h
    · obtain ⟨a, b, h⟩ := h
      by_cases hn : n = 0
      · rw [if_pos hn] at h; exact ⟨_, _, h, hN _ ⟨a, b, by rw [if_pos hn]; exact ⟨rfl, rfl⟩⟩⟩
      · rw [if_neg hn] at h; exact ⟨_, _, h, hN _ ⟨a, b, by rw [if_neg hn]; exact ⟨rfl, rfl⟩⟩⟩
    · obtain ⟨a, b, h⟩ := h
      split at h
      · rename_i hn
        exact ⟨_, _, h, hN _ ⟨a, b, by rw [if_pos hn]; exact ⟨rfl, rfl⟩⟩⟩
      · rename_i hn
        split at h
        · rename_i hc
          split at h
          · rename_i hr
            split at h
            · rename_i e cs hg
              exact ⟨_, _, h.2.2, hN _ ⟨a, b, by rw [if_neg hn, if_pos hc, if_pos hr]; simp only; exact ⟨h.1, h.2.1, trivial, trivial⟩⟩⟩
            · exact h.elim
          · rename_i hr
            split at h
            · rename_i cs hg
              exact ⟨_, _, h.2, hN _ ⟨a, b, by rw [if_neg hn, if_pos hc, if_neg hr]; simp only; exact ⟨h.1, trivial, trivial⟩⟩⟩
            · exact h.elim
        · rename_i hc
          split at h
          · rename_i e cs hg
            exact ⟨_, _, h.2.2.2, hN _ ⟨a, b, by rw [if_neg hn, if_neg hc]; simp only; exact ⟨h.1, h.2.1, h.2.2.1, trivial, trivial⟩⟩⟩
          · exact h.elim
    · exact h.elim
  · exact h.elim
theorem aLen_fix {H : AHeap} {t : TypeId} {x : Value} {K : Value → Prop} (h : aLen P H t x K) : ∃ v, K v ∧ aLen P H t x (fun u => u = v) := by
  unfold aLen at h ⊢
  split at h <;> first | exact h.elim | exact ⟨_, h, rfl⟩ | (split at h <;> first | exact h.elim | exact ⟨_, h, rfl⟩)
theorem aMaxMin_fix {b : Bool} {xs : List Value} {K : Value → Prop} (h : aMaxMin b xs K) : ∃ v, K v ∧ aMaxMin b xs (fun u => u = v) := by
  unfold aMaxMin at h ⊢
  split at h <;> first | exact h.elim | exact ⟨_, h.2, h.1, rfl⟩
theorem aBuiltin_fix {H : AHeap} {b : Builtin} {ts : List TypeId} {xs : List Value} {K : Value → AHeap → Prop} (h : aBuiltin P H b ts xs K) : ∃ v H', K v H' ∧ aBuiltin P H b ts xs (fun a b => a = v ∧ b = H') := by
  unfold aBuiltin at h ⊢
  split at h
  · obtain ⟨v, h1, h2⟩ := aLen_fix h; exact ⟨v, H, h1, by simpa using h2⟩
  · exact aAppend_fix h
  · obtain ⟨v, h1, h2⟩ := aMaxMin_fix h; exact ⟨v, H, h1, by simpa using h2⟩
  · obtain ⟨v, h1, h2⟩ := aMaxMin_fix h; exact ⟨v, H, h1, by simpa using h2⟩
  · exact h.elim
theorem aMake_fix {H : AHeap} {t : TypeId} {l c : Value} {K : Value → AHeap → Prop} (h : aMake P H t l c K) : ∃ v H', K v H' ∧ aMake P H t l c (fun a b => a = v ∧ b = H') := by
  unfold aMake at h ⊢
  split at h
  · obtain ⟨a, b, c, d, e, f, g, h⟩ := h
    exact ⟨_, _, h, a, b, c, d, e, f, g, rfl, rfl⟩
  · exact h.elim

theorem aOp_fix {σ : Slots} {H : AHeap} {o : Oper} {K : Value → AHeap → Prop} (h : aOp P σ H o K) : ∃ v H', K v H' ∧ aOp P σ H o (fun a b => a = v ∧ b = H') := by
  obtain ⟨dst, op, type, pos, after, guard⟩ := o
  cases op <;> simp only [aOp] at h ⊢ <;> try exact h.elim
  case move x => exact ⟨_, _, h, rfl, rfl⟩
  case assign x => exact ⟨_, _, h, rfl, rfl⟩
  case pick c x y =>
    split at h
    · exact ⟨_, _, h, rfl, rfl⟩
    · exact h.elim
  case alloc e =>
    split at h
    · exact ⟨_, _, h.2, h.1, rfl, rfl⟩
    · exact h.elim
  case box e x => exact ⟨_, _, h, rfl, rfl⟩
  case build t parts =>
    split at h
    · split at h
      · obtain ⟨out, h1, h2⟩ := aFill_fix _ _ h.2
        refine ⟨.agg out.toArray, H, h1, h.1, ?_⟩
        have : (fun cs : List Value => Value.agg cs.toArray = .agg out.toArray ∧ H = H) = fun x => x = out := by
          funext x; simp
        rw [this]; exact h2
      · exact h.elim
    · split at h
      · obtain ⟨out, h1, h2⟩ := aFill_fix _ _ h.2
        refine ⟨.agg out.toArray, H, h1, h.1, ?_⟩
        have : (fun cs : List Value => Value.agg cs.toArray = .agg out.toArray ∧ H = H) = fun x => x = out := by
          funext x; simp
        rw [this]; exact h2
      · exact h.elim
    · exact h.elim
  case buildSlice t len parts =>
    split at h
    · rename_i sz by_ z hte
      obtain ⟨a, b, c, d, h⟩ := h
      obtain ⟨out, h1, h2⟩ := aFill_fix _ _ h
      refine ⟨_, _, h1, a, b, c, d, ?_⟩
      have : (fun cs : List Value => Value.slice (some ⟨H.size, 0, none⟩) len len = .slice (some ⟨H.size, 0, none⟩) len len ∧ H.push (.rw sz cs) = H.push (.rw sz out)) = fun x => x = out := by
        funext x; simp [AHeap.push]
      rw [this]; exact h2
    · exact h.elim
  case load t x => obtain ⟨v, h1, h2⟩ := aLoad_fix h; exact ⟨v, H, h1, by simpa using h2⟩
  case store t x y => obtain ⟨v, h1, h2⟩ := aStore_fix h; exact ⟨undef, v, h1, by simpa using h2⟩
  case nilCheck x =>
    split at h
    · exact ⟨_, _, h, rfl, rfl⟩
    · exact ⟨_, _, h, rfl, rfl⟩
    · exact h.elim
  case binOp bop t x y yt => obtain ⟨v, h1, h2⟩ := aBin_fix h; exact ⟨v, H, h1, by simpa using h2⟩
  case unOp uop t x => obtain ⟨v, h1, h2⟩ := aUn_fix h; exact ⟨v, H, h1, by simpa using h2⟩
  case convert s d x => obtain ⟨v, h1, h2⟩ := aConv_fix h; exact ⟨v, H, h1, by simpa using h2⟩
  case makeInterface t x =>
    split at h
    · exact h.elim
    · exact ⟨_, _, h, rfl, rfl⟩
    · exact h.elim
  case makeFunc fn first captured => exact ⟨_, _, h, rfl, rfl⟩
  case makeMap t r =>
    cases r with
    | some r => exact h.elim
    | none => exact ⟨_, _, h, rfl, rfl⟩
  case makeSlice t l c => exact aMake_fix h
  case slice t x lo hi mx => obtain ⟨v, h1, h2⟩ := aSlice_fix h; exact ⟨v, H, h1, by simpa using h2⟩
  case fieldAddr s x f =>
    split at h
    · exact ⟨_, _, h.2, h.1, rfl, rfl⟩
    · exact h.elim
  case field t x f =>
    split at h
    · obtain ⟨v, h1, h2⟩ := cellsAt_fix h; exact ⟨v, H, h1, by simpa using h2⟩
    · exact h.elim
  case indexAddr t x i => obtain ⟨v, h1, h2⟩ := aIndexAddr_fix h; exact ⟨v, H, h1, by simpa using h2⟩
  case index t x i => obtain ⟨v, h1, h2⟩ := aIndex_fix h; exact ⟨v, H, h1, by simpa using h2⟩
  case lookup t x k ok => obtain ⟨v, h1, h2⟩ := aLookup_fix h; exact ⟨v, H, h1, by simpa using h2⟩
  case mapUpdate t x k v => obtain ⟨H', h1, h2⟩ := aMapUpdate_fix h; exact ⟨undef, H', h1, by simpa using h2⟩
  case extract x i =>
    split at h
    · exact ⟨_, _, h.2, h.1, rfl, rfl⟩
    · exact h.elim
  case call c =>
    obtain ⟨callee, args, argTypes⟩ := c
    cases callee with
    | invoke r mth => exact h.elim
    | builtin b => exact aBuiltin_fix h
    | value f =>
      simp only at h ⊢
      split at h
      · obtain ⟨r, H', h1, h2⟩ := h
        exact ⟨r, H', h2, r, H', h1, rfl, rfl⟩
      · exact h.elim

/-- What an operation's fixed answer stands for, with the soundness of the operation. -/
theorem aOp_fixed {n : Nat} {σ : Slots} {H H' : AHeap} {o : Oper} {v : Value} (hok : oOk n o = true) (h : aOp P σ H o (fun a b => a = v ∧ b = H')) :
    AExt H H' ∧ (quietOp o.op = true → AKeep H H') ∧ ∀ m w a, Rel m H w → Free m H H' → TRel m n σ a.tmps → ∀ Q,
      o.wp P a w (fun a' w' => ∃ v' m', a' = a.put o.dst v' ∧ VRel m' v v' ∧ Step m H w m' H' w') Q := by
  obtain ⟨v', H'', ⟨rfl, rfl⟩, h1⟩ := aOp_sound hok h
  exact h1

end Go.Ah

/- Operations in other orders: what an operation's answer hangs on. -/
namespace Go.Ah
variable {P : Program}

theorem aOp_congr {σ σ2 : Slots} {H : AHeap} {o : Oper} {K : Value → AHeap → Prop} (h : ∀ x ∈ o.op.operands, evO σ x = evO σ2 x) : aOp P σ H o K = aOp P σ2 H o K := by
  obtain ⟨dst, op, type, pos, after, guard⟩ := o
  have pairs : ∀ ps : List (Nat × Operand), (∀ p ∈ ps, evO σ p.2 = evO σ2 p.2) → (ps.map fun p => (p.1, evO σ p.2)) = (ps.map fun p => (p.1, evO σ2 p.2)) := fun ps hp =>
    List.map_congr_left fun p hm => by rw [hp p hm]
  cases op <;> simp only [Op.operands] at h <;> simp only [aOp]
  case build t ps =>
    rw [pairs ps.toList fun p hp => h p.2 (by simpa using ⟨p.1, by simpa using hp⟩)]
  case buildSlice t n ps =>
    rw [pairs ps.toList fun p hp => h p.2 (by simpa using ⟨p.1, by simpa using hp⟩)]
  case makeFunc fn first captured =>
    rw [Array.map_congr_left (xs := first) fun x hx => h x (by simp [hx]), Array.map_congr_left (xs := captured) fun x hx => h x (by simp [hx])]
  case call c =>
    obtain ⟨callee, args, argTypes⟩ := c
    have ha : args.map (evO σ) = args.map (evO σ2) := Array.map_congr_left fun x hx => h x (by simp [Call.operands, hx])
    have hl : args.toList.map (evO σ) = args.toList.map (evO σ2) := List.map_congr_left fun x hx => h x (by simp [Call.operands]; exact .inr (by simpa using hx))
    cases callee with
    | invoke r mth => rfl
    | builtin b => simp only [hl]
    | value f =>
      have hf : evO σ f = evO σ2 f := h f (by simp [Call.operands])
      simp only [ha, hf]
  case makeMap t r => cases r <;> simp_all
  case slice t x lo hi mx => cases lo <;> cases hi <;> cases mx <;> simp_all
  all_goals (first | rfl | (simp_all; done))

theorem aOp_pure {σ : Slots} {H H' : AHeap} {o : Oper} {v : Value} (hp : pureOp P o.op = true) (h : aOp P σ H o (fun a b => a = v ∧ b = H')) :
    H' = H ∧ ∀ H2, aOp P σ H2 o (fun a b => a = v ∧ b = H2) := by
  obtain ⟨dst, op, type, pos, after, guard⟩ := o
  have fn : ∀ {K : (Value → Prop) → Prop} (hK : ∀ (Q R : Value → Prop), (∀ v, Q v → R v) → K Q → K R) (hne : ∀ Q : Value → Prop, K Q → ∃ v, Q v), K (fun u => u = v ∧ H = H') → H' = H ∧ ∀ H2 : AHeap, K (fun u => u = v ∧ H2 = H2) := by
    intro K hK hne h
    obtain ⟨u, _, e⟩ := hne _ h
    exact ⟨e.symm, fun H2 => hK _ _ (fun w hw => ⟨hw.1, rfl⟩) h⟩
  cases op <;> simp only [pureOp] at hp <;> try (cases hp; done)
  case move x => simp only [aOp] at h ⊢; exact ⟨h.2.symm, fun H2 => ⟨h.1, trivial⟩⟩
  case assign x => simp only [aOp] at h ⊢; exact ⟨h.2.symm, fun H2 => ⟨h.1, trivial⟩⟩
  case pick c x y =>
    simp only [aOp] at h ⊢
    split at h
    · exact ⟨h.2.symm, fun H2 => ⟨h.1, trivial⟩⟩
    · exact h.elim
  case nilCheck x =>
    simp only [aOp] at h ⊢
    split at h
    · exact ⟨h.2.symm, fun H2 => ⟨h.1, trivial⟩⟩
    · exact ⟨h.2.symm, fun H2 => ⟨h.1, trivial⟩⟩
    · exact h.elim
  case binOp bop t x y yt =>
    simp only [aOp] at h ⊢
    obtain ⟨u, ⟨rfl, rfl⟩, h2⟩ := aBin_fix h
    exact ⟨rfl, fun H2 => by simpa using h2⟩
  case unOp uop t x =>
    simp only [aOp] at h ⊢
    obtain ⟨u, ⟨rfl, rfl⟩, h2⟩ := aUn_fix h
    exact ⟨rfl, fun H2 => by simpa using h2⟩
  case convert s d x =>
    simp only [aOp] at h ⊢
    obtain ⟨u, ⟨rfl, rfl⟩, h2⟩ := aConv_fix h
    exact ⟨rfl, fun H2 => by simpa using h2⟩
  case makeInterface t x =>
    simp only [aOp] at h ⊢
    split at h
    · exact h.elim
    · exact ⟨h.2.symm, fun H2 => ⟨h.1, trivial⟩⟩
    · exact h.elim
  case makeFunc fn first captured => simp only [aOp] at h ⊢; exact ⟨h.2.symm, fun H2 => ⟨h.1, trivial⟩⟩
  case fieldAddr s x f =>
    simp only [aOp] at h ⊢
    split at h
    · exact ⟨h.2.2.symm, fun H2 => ⟨h.1, h.2.1, trivial⟩⟩
    · exact h.elim
  case field t x f =>
    simp only [aOp] at h ⊢
    split at h
    · obtain ⟨u, ⟨rfl, rfl⟩, h2⟩ := cellsAt_fix h
      exact ⟨rfl, fun H2 => by simpa using h2⟩
    · exact h.elim
  case indexAddr t x i =>
    simp only [aOp] at h ⊢
    obtain ⟨u, ⟨rfl, rfl⟩, h2⟩ := aIndexAddr_fix h
    exact ⟨rfl, fun H2 => by simpa using h2⟩
  case index t x i =>
    simp only [aOp] at h ⊢
    obtain ⟨u, ⟨rfl, rfl⟩, h2⟩ := aIndex_fix h
    exact ⟨rfl, fun H2 => by simpa using h2⟩
  case extract x i =>
    simp only [aOp] at h ⊢
    split at h
    · exact ⟨h.2.2.symm, fun H2 => ⟨h.1, h.2.1, trivial⟩⟩
    · exact h.elim
  case call c =>
    obtain ⟨callee, args, argTypes⟩ := c
    cases callee with
    | invoke r mth => simp at hp
    | value f => simp at hp
    | builtin b =>
      simp only [aOp] at h ⊢
      cases b <;> simp only at hp <;> try (cases hp; done)
      case len =>
        unfold aBuiltin at h ⊢
        split at h
        · rename_i t x e0 e1 e2
          have ht : argTypes[0]? = some t := by
            have := congrArg (fun l => l[0]?) e1
            simpa using this
          rw [ht] at hp
          simp only [Option.bind_some] at hp
          unfold aLen at h ⊢
          split at hp
          · rename_i hu
            rw [hu] at h ⊢
            split at h <;> simp_all
          · rename_i e hu
            rw [hu] at h ⊢
            split at h <;> simp_all
          · cases hp
        all_goals simp_all
      case max =>
        unfold aBuiltin at h ⊢
        simp only at h ⊢
        obtain ⟨u, ⟨rfl, rfl⟩, h2⟩ := aMaxMin_fix h
        exact ⟨rfl, fun H2 => by simpa using h2⟩
      case min =>
        unfold aBuiltin at h ⊢
        simp only at h ⊢
        obtain ⟨u, ⟨rfl, rfl⟩, h2⟩ := aMaxMin_fix h
        exact ⟨rfl, fun H2 => by simpa using h2⟩

theorem aOp_read {σ : Slots} {H H' : AHeap} {o : Oper} {v : Value} {x : Operand} (hr : readOp o.op = some x) (h : aOp P σ H o (fun a b => a = v ∧ b = H')) :
    H' = H ∧ ∀ H2, (∀ id, objOf (evO σ x) = some id → H2.get id = H.get id) → aOp P σ H2 o (fun a b => a = v ∧ b = H2) := by
  obtain ⟨dst, op, type, pos, after, guard⟩ := o
  cases op <;> simp only [readOp] at hr <;> try (cases hr; done)
  case load t y =>
    cases hr
    simp only [aOp] at h ⊢
    obtain ⟨u, ⟨rfl, rfl⟩, h2⟩ := aLoad_fix h
    refine ⟨rfl, fun H2 h3 => ?_⟩
    unfold aLoad at h2 ⊢
    split at h2
    · rename_i id off e
      rw [h3 id (by rw [e]; rfl)]
      simpa using h2
    · exact h2.elim
  case slice t y lo hi mx =>
    cases hr
    simp only [aOp] at h ⊢
    obtain ⟨u, ⟨rfl, rfl⟩, h2⟩ := aSlice_fix h
    refine ⟨rfl, fun H2 h3 => ?_⟩
    unfold aSlice at h2 ⊢
    split at h2
    · simpa using h2
    · simpa using h2
    · rename_i e id off len cap hu he
      rw [h3 id (by rw [he]; rfl)]
      simpa using h2
    · exact h2.elim
  case lookup t y k ok =>
    cases hr
    simp only [aOp] at h ⊢
    obtain ⟨u, ⟨rfl, rfl⟩, h2⟩ := aLookup_fix h
    refine ⟨rfl, fun H2 h3 => ?_⟩
    unfold aLookup at h2 ⊢
    split at h2
    · rename_i kt et id hu he
      rw [h3 id (by rw [he]; rfl)]
      simpa using h2
    · exact h2.elim

theorem befMask_bit (o : Oper) (acc : List Nat) (j : Nat) (h : (befMask o acc).testBit j = true) :
    ∃ e ∈ o.after.toList, Region.binds .any e = true ∧ (e.on = j ∨ (acc.getD e.on 0).testBit j = true) := by
  have key : ∀ (l : List Edge) (s : Nat), (l.foldl (fun s e => if Region.binds .any e then s ||| 2 ^ e.on ||| acc.getD e.on 0 else s) s).testBit j = true →
      s.testBit j = true ∨ ∃ e ∈ l, Region.binds .any e = true ∧ (e.on = j ∨ (acc.getD e.on 0).testBit j = true) := by
    intro l
    induction l with
    | nil => intro s h; exact .inl h
    | cons e l ih =>
      intro s h
      rw [List.foldl_cons] at h
      rcases ih _ h with h1 | ⟨e', he, h1⟩
      · split at h1
        · rename_i hb
          simp only [Nat.testBit_or, Bool.or_eq_true] at h1
          rcases h1 with (h1 | h1) | h1
          · exact .inl h1
          · rw [Nat.testBit_two_pow] at h1
            exact .inr ⟨e, by simp, hb, .inl (of_decide_eq_true h1)⟩
          · exact .inr ⟨e, by simp, hb, .inr h1⟩
        · exact .inl h1
      · exact .inr ⟨e', by simp [he], h1⟩
  rcases key o.after.toList 0 h with h1 | h1
  · simp at h1
  · exact h1

theorem befMasks_acc : ∀ (l : List Oper) (acc : List Nat) (i : Nat), i < acc.length → (befMasks l acc).getD i 0 = acc.getD i 0
  | [], _, _, _ => rfl
  | o :: r, acc, i, h => by
    rw [befMasks, befMasks_acc r _ i (by simp; omega)]
    simp only [List.getD_eq_getElem?_getD]
    rw [List.getElem?_append_left h]

/-- A set of operations that holds with each the ones before it. -/
def Closed (ops : Array Oper) (S : Nat → Prop) : Prop := ∀ i o, S i → ops[i]? = some o → ∀ e ∈ o.after.toList, Region.binds .any e = true → S e.on

theorem befMasks_closed (S : Nat → Prop) : ∀ (l : List Oper) (acc : List Nat) (ops : List Oper), ops.drop acc.length = l → (∀ i j, i < acc.length → (acc.getD i 0).testBit j = true → (∀ o, ops[i]? = some o → ∀ e ∈ o.after.toList, Region.binds .any e = true → S e.on) → (∀ k o, S k → ops[k]? = some o → ∀ e ∈ o.after.toList, Region.binds .any e = true → S e.on) → S j) →
    ∀ i j, ((befMasks l acc).getD i 0).testBit j = true → (∀ o, ops[i]? = some o → ∀ e ∈ o.after.toList, Region.binds .any e = true → S e.on) → (∀ k o, S k → ops[k]? = some o → ∀ e ∈ o.after.toList, Region.binds .any e = true → S e.on) → S j
  | [], acc, ops, hd, ha => by
    intro i j h h1 h2
    simp only [befMasks] at h
    by_cases hi : i < acc.length
    · exact ha i j hi h h1 h2
    · simp only [List.getD_eq_getElem?_getD, List.getElem?_eq_none (Nat.le_of_not_lt hi)] at h
      simp at h
  | o :: r, acc, ops, hd, ha => by
    rw [befMasks]
    have hlen : acc.length < ops.length := by
      have := congrArg List.length hd
      simp at this
      omega
    have ho : ops[acc.length]? = some o := by
      have := congrArg (fun l => l[0]?) hd
      simpa using this
    refine befMasks_closed S r (acc ++ [befMask o acc]) ops ?_ ?_
    · have := congrArg List.tail hd
      simpa [List.tail_drop] using this
    · intro i j hi h h1 h2
      simp only [List.getD_eq_getElem?_getD] at h
      by_cases hi2 : i < acc.length
      · rw [List.getElem?_append_left hi2] at h
        exact ha i j hi2 (by simpa [List.getD_eq_getElem?_getD] using h) h1 h2
      · have e : i = acc.length := by simp at hi; omega
        subst e
        rw [List.getElem?_append_right (Nat.le_refl _)] at h
        simp at h
        obtain ⟨ed, he, hb, h3⟩ := befMask_bit o acc j h
        have hs := h1 o ho ed he hb
        rcases h3 with rfl | h3
        · exact hs
        · by_cases hlt : ed.on < acc.length
          · exact ha ed.on j hlt h3 (fun o' ho' => h2 ed.on o' hs ho') h2
          · simp only [List.getD_eq_getElem?_getD, List.getElem?_eq_none (Nat.le_of_not_lt hlt)] at h3
            simp at h3

/-- What stands before i is in every closed set that holds i, or what i hangs on. -/
theorem before_in {ops : Array Oper} {S : Nat → Prop} (hc : Closed ops S) {i j : Nat} (h : ((befMasks ops.toList []).getD i 0).testBit j = true)
    (hi : ∀ o, ops[i]? = some o → ∀ e ∈ o.after.toList, Region.binds .any e = true → S e.on) : S j :=
  befMasks_closed S ops.toList [] ops.toList (by simp) (fun i j hi => by simp at hi) i j h (fun o ho => hi o (by simpa using ho)) (fun k o hk ho => hc k o hk (by simpa using ho))

end Go.Ah

/- Regions in the text's order: sound. The trace of a region. -/
namespace Go.Ah
variable {P : Program}

def guardTmp (ops : Array Oper) (o : Oper) : Option Tmp := match o.guard with
  | some (j, _) => (ops[j]?).bind (·.dst)
  | none => none

/-- What is asked of every region's operations. -/
def opsOk (n : Nat) (ops : Array Oper) : Bool := ops.toList.all fun o => oOk n o && dstOk n o.dst && dstOk n (guardTmp ops o)

theorem opsOk_get {n : Nat} {ops : Array Oper} (h : opsOk n ops = true) {i : Nat} {o : Oper} (ho : ops[i]? = some o) : oOk n o = true ∧ dstOk n o.dst = true ∧ dstOk n (guardTmp ops o) = true := by
  have hm : o ∈ ops.toList := by
    have : ops.toList[i]? = some o := by simpa using ho
    exact List.mem_of_getElem? this
  have := List.all_eq_true.1 h o hm
  simpa [and_assoc] using this

theorem wanted_rel {m : Map} {ops : Array Oper} {σ : Slots} {tmps : Array Value} {o : Oper} (h : ∀ t, guardTmp ops o = some t → t < tmps.size ∧ VRel m (σ t) (tmps.getD t undef)) :
    Region.wanted o (yielded ops tmps) = wantedA ops σ o := by
  unfold Region.wanted wantedA
  unfold guardTmp at h
  cases hg : o.guard with
  | none => rfl
  | some gw =>
    obtain ⟨j, want⟩ := gw
    rw [hg] at h
    simp only at h ⊢
    unfold yielded
    cases ht : (ops[j]?).bind (·.dst) with
    | none => simp
    | some t =>
      obtain ⟨h1, h2⟩ := h t ht
      simp only [Option.bind_some]
      rw [Array.getD_eq_getD_getElem?, Array.getElem?_eq_getElem h1, Option.getD_some] at h2
      rw [Array.getElem?_eq_getElem h1]
      generalize σ t = x at h2 ⊢
      generalize tmps[t] = y at h2 ⊢
      cases h2 <;> first | rfl | simp

structure Tr (P : Program) (mode : Nat) (ops : Array Oper) (i0 : Nat) (S : Nat → Slots) (G : Nat → AHeap) (v : Nat → Value) : Prop where
  step : ∀ i o, i0 ≤ i → ops[i]? = some o → S (i + 1) = (S i).put o.dst (v i) ∧
    ((wantedA ops (S i) o = true ∧ aOp P (S i) (G i) o (fun a b => a = v i ∧ b = G (i + 1)) ∧ drawCond P mode ops i o.op (G i) (G (i + 1))) ∨
     (wantedA ops (S i) o = false ∧ v i = undef ∧ G (i + 1) = G i))
  float : ∀ i o, i0 ≤ i → ops[i]? = some o → wantedA ops (S i) o = true → accOf mode o.op i (G i) (G (i + 1)) [] ≠ [] →
    ∀ a ∈ floatsOf ops i, AKeep (G i) (G (i + 1)) ∨ ∀ id, objOf (evO (S ops.size) a) = some id → (G (i + 1)).get id = (G i).get id

theorem accOf_mem {mode : Nat} {o : Op} {i : Nat} {H H' : AHeap} {acc : List (Nat × AHeap × AHeap)} {x : Nat × AHeap × AHeap} (h : x ∈ acc) : x ∈ accOf mode o i H H' acc := by
  unfold accOf; split <;> simp_all
theorem accOf_new {mode : Nat} {o : Op} {i : Nat} {H H' : AHeap} {acc : List (Nat × AHeap × AHeap)} (h : accOf mode o i H H' [] ≠ []) : (i, H, H') ∈ accOf mode o i H H' acc := by
  unfold accOf at *; split at h <;> simp_all

theorem trace_of {mode : Nat} {ops : Array Oper} {K : Slots → AHeap → Prop} : ∀ (l : List Oper) (i : Nat) (acc : List (Nat × AHeap × AHeap)) (σ : Slots) (H : AHeap),
    l = ops.toList.drop i → i + l.length = ops.size → aOpsL P mode ops K l i acc σ H →
    ∃ S G v, S i = σ ∧ G i = H ∧ Tr P mode ops i S G v ∧ floatCond ops acc (S ops.size) ∧ K (S ops.size) (G ops.size)
  | [], i, acc, σ, H, hl, hn, h => by
    simp at hn
    subst hn
    refine ⟨fun _ => σ, fun _ => H, fun _ => undef, rfl, rfl, ⟨fun i o hi ho => ?_, fun i o hi ho => ?_⟩, h.1, h.2⟩
    · rw [Array.getElem?_eq_none hi] at ho; cases ho
    · rw [Array.getElem?_eq_none hi] at ho; cases ho
  | o :: r, i, acc, σ, H, hl, hn, h => by
    have ho : ops[i]? = some o := by
      have := congrArg (fun l => l[0]?) hl
      simp at this
      exact this.symm
    have hr : r = ops.toList.drop (i + 1) := by
      have := congrArg List.tail hl
      simpa [List.tail_drop] using this
    have hn' : i + 1 + r.length = ops.size := by simp at hn; omega
    simp only [aOpsL] at h
    split at h
    · rename_i hw
      obtain ⟨v0, H', ⟨hdc, h⟩, hfix⟩ := aOp_fix h
      obtain ⟨S, G, v, e1, e2, tr, hf, hK⟩ := trace_of r (i + 1) _ _ H' hr hn' h
      have ne : ops.size ≠ i := by omega
      refine ⟨fun k => if k = i then σ else S k, fun k => if k = i then H else G k, fun k => if k = i then v0 else v k, by simp, by simp, ⟨fun k o' hk ho' => ?_, fun k o' hk ho' hw' ha => ?_⟩, ?_, ?_⟩
      · by_cases e : k = i
        · subst e
          rw [ho] at ho'; cases ho'
          simp only [if_true, if_neg (Nat.succ_ne_self k), e1, e2]
          exact ⟨trivial, .inl ⟨hw, hfix, hdc⟩⟩
        · simp only [if_neg e, if_neg (show k + 1 ≠ i by omega)]
          exact tr.step k o' (by omega) ho'
      · by_cases e : k = i
        · subst e
          rw [ho] at ho'; cases ho'
          simp only [if_true, if_neg (Nat.succ_ne_self k), e2, if_neg ne] at ha ⊢
          intro a hfl
          exact hf _ (accOf_new ha) a hfl
        · simp only [if_neg e, if_neg (show k + 1 ≠ i by omega), if_neg ne] at hw' ha ⊢
          exact tr.float k o' (by omega) ho' hw' ha
      · simp only [if_neg ne]
        exact fun x hx => hf x (accOf_mem hx)
      · simp only [if_neg ne]; exact hK
    · rename_i hw
      have hw2 : wantedA ops σ o = false := by simpa using hw
      obtain ⟨S, G, v, e1, e2, tr, hf, hK⟩ := trace_of r (i + 1) _ _ H hr hn' h
      have ne : ops.size ≠ i := by omega
      refine ⟨fun k => if k = i then σ else S k, fun k => if k = i then H else G k, fun k => if k = i then undef else v k, by simp, by simp, ⟨fun k o' hk ho' => ?_, fun k o' hk ho' hw' ha => ?_⟩, ?_, ?_⟩
      · by_cases e : k = i
        · subst e
          rw [ho] at ho'; cases ho'
          simp only [if_true, if_neg (Nat.succ_ne_self k), e1, e2]
          exact ⟨trivial, .inr ⟨hw2, trivial, trivial⟩⟩
        · simp only [if_neg e, if_neg (show k + 1 ≠ i by omega)]
          exact tr.step k o' (by omega) ho'
      · by_cases e : k = i
        · subst e
          rw [ho] at ho'; cases ho'
          simp only [if_true] at hw'
          rw [hw2] at hw'; cases hw'
        · simp only [if_neg e, if_neg (show k + 1 ≠ i by omega), if_neg ne] at hw' ha ⊢
          exact tr.float k o' (by omega) ho' hw' ha
      · simp only [if_neg ne]; exact hf
      · simp only [if_neg ne]; exact hK

theorem Tr.ext {mode n : Nat} {ops : Array Oper} {S : Nat → Slots} {G : Nat → AHeap} {v : Nat → Value} (tr : Tr P mode ops 0 S G v) (hok : opsOk n ops = true) (i : Nat) (hi : i < ops.size) : AExt (G i) (G (i + 1)) := by
  obtain ⟨o, ho⟩ : ∃ o, ops[i]? = some o := ⟨_, Array.getElem?_eq_getElem hi⟩
  rcases (tr.step i o (Nat.zero_le _) ho).2 with ⟨_, h, _⟩ | ⟨_, _, h⟩
  · exact (aOp_fixed (opsOk_get hok ho).1 h).1
  · rw [h]; exact AExt.refl _

theorem Tr.ext_le {mode n : Nat} {ops : Array Oper} {S : Nat → Slots} {G : Nat → AHeap} {v : Nat → Value} (tr : Tr P mode ops 0 S G v) (hok : opsOk n ops = true) (i : Nat) : ∀ j, i ≤ j → j ≤ ops.size → AExt (G i) (G j) := by
  intro j hij
  induction hij with
  | refl => intro _; exact AExt.refl _
  | step h ih => intro hj; exact (ih (by omega)).trans (tr.ext hok _ (by omega))

/-- What a region comes to. -/
def RPost (m0 : Map) (n : Nat) (H0 : AHeap) (w0 : World) (d0 : List Deferred) (σ : Slots) (H : AHeap) : Exit → Act → World → Prop
  | .normal, a, w => a.defers = d0 ∧ ∃ m, TRel m n σ a.tmps ∧ Step m0 H0 w0 m H w
  | _, _, _ => False

theorem put_defers' (a : Act) (d : Option Tmp) (v : Value) : (a.put d v).defers = a.defers := by cases d <;> rfl

theorem seq_sound {n : Nat} {ops : Array Oper} {S : Nat → Slots} {G : Nat → AHeap} {v : Nat → Value} {mode : Nat} (tr : Tr P mode ops 0 S G v) (hok : opsOk n ops = true) {m0 : Map} {w0 : World} (hf : Free m0 (G 0) (G ops.size)) (d0 : List Deferred) :
    ∀ (len k : Nat), k + len = ops.size → ∀ m (a : Act) w, a.defers = d0 → TRel m n (S k) a.tmps → Step m0 (G 0) w0 m (G k) w →
      wpOps P ops (RPost m0 n (G 0) w0 d0 (S ops.size) (G ops.size)) (List.range' k len) a w
  | 0, k, hk, m, a, w, hd, ht, hs => by
    have e : k = ops.size := by omega
    subst e
    exact ⟨hd, m, ht, hs⟩
  | len + 1, k, hk, m, a, w, hd, ht, hs => by
    have hlt : k < ops.size := by omega
    obtain ⟨o, ho⟩ : ∃ o, ops[k]? = some o := ⟨_, Array.getElem?_eq_getElem hlt⟩
    obtain ⟨h1, h2, h3⟩ := opsOk_get hok ho
    rw [List.range'_succ]
    simp only [wpOps, ho]
    have hwr : Region.wanted o (yielded ops a.tmps) = wantedA ops (S k) o := wanted_rel (m := m) fun t hg => by
      rw [hg] at h3
      have := of_decide_eq_true h3
      exact ⟨by rw [ht.size]; exact this, ht.val t this⟩
    rw [hwr]
    obtain ⟨hS, hcase⟩ := tr.step k o (Nat.zero_le _) ho
    have ext1 := tr.ext_le hok (k + 1) ops.size (by omega) (Nat.le_refl _)
    have ext0 := tr.ext hok k hlt
    rcases hcase with ⟨hw, hop, _⟩ | ⟨hw, hv, hG⟩
    · rw [if_pos hw]
      refine .inl ?_
      obtain ⟨_, _, hsound⟩ := aOp_fixed h1 hop
      have fk : Free m (G k) (G (k + 1)) := (hf.right hs).left ext1.size
      refine Oper.wp_mono (fun a' w' => ?_) (hsound m w a hs.rel fk ht _)
      rintro ⟨v', m', rfl, hv, hs'⟩
      refine seq_sound tr hok hf d0 len (k + 1) (by omega) m' _ w' (by rw [put_defers', hd]) ?_ (Step.trans (hf.left ext1.size) hs hs')
      rw [hS]
      exact (ht.mono hs'.ext).put o.dst hv
    · rw [if_neg (by rw [hw]; simp)]
      refine seq_sound tr hok hf d0 len (k + 1) (by omega) m _ w (by rw [put_defers', hd]) ?_ (by rw [hG]; exact hs)
      rw [hS, hv]
      exact ht.put o.dst (VRel.undef m)

end Go.Ah

/- Regions whose order is drawn: sound in every order. -/
namespace Go.Ah
variable {P : Program}

def drawOk (P : Program) (n mode : Nat) (ops : Array Oper) : Bool :=
  let z := ops.toList.zipIdx
  let b := befMasks ops.toList []
  opsOk n ops &&
  (z.all fun x => z.all fun y => x.2 == y.2 || (match x.1.dst with | some d => y.1.dst != some d | none => true)) &&
  (z.all fun x => z.all fun y => x.2 == y.2 || (match y.1.dst with | some d => !(x.1.looksAt ops).contains d || cmpB b x.2 y.2 | none => true)) &&
  (z.all fun x => x.1.after.toList.all fun e => !Region.binds .any e || decide (e.on < x.2)) &&
  (z.all fun x => match x.1.op with
    | .store .. | .mapUpdate .. => if mode == 1 then barrierB P ops x.2 else weakB P ops x.2
    | _ => true) &&
  (z.all fun x => match readOp x.1.op with
    | some (.tmp t) => z.all fun y => decide (y.2 < x.2) || y.1.dst != some t
    | _ => true) && (mode == 1 || mode == 2)

theorem mem_zip {ops : Array Oper} {i : Nat} {o : Oper} (h : ops[i]? = some o) : (o, i) ∈ ops.toList.zipIdx := by
  rw [List.mem_zipIdx_iff_getElem?]
  simpa using h

structure DOk (P : Program) (n mode : Nat) (ops : Array Oper) : Prop where
  ok : opsOk n ops = true
  dist : ∀ (i j : Nat) (oi oj : Oper) (t : Tmp), ops[i]? = some oi → ops[j]? = some oj → oi.dst = some t → oj.dst = some t → i = j
  order : ∀ (i j : Nat) (oi oj : Oper) (t : Tmp), ops[i]? = some oi → ops[j]? = some oj → i ≠ j → oj.dst = some t → t ∈ oi.looksAt ops → cmpB (befMasks ops.toList []) i j = true
  edges : ∀ (i : Nat) (o : Oper), ops[i]? = some o → ∀ e ∈ o.after.toList, Region.binds .any e = true → e.on < i
  writes : ∀ (i : Nat) (o : Oper), ops[i]? = some o → (∃ a b c, o.op = .store a b c) ∨ (∃ a b c d, o.op = .mapUpdate a b c d) → if mode = 1 then barrierB P ops i = true else weakB P ops i = true
  reads : ∀ (i j : Nat) (oi oj : Oper) (t : Tmp), ops[i]? = some oi → ops[j]? = some oj → readOp oi.op = some (.tmp t) → i ≤ j → oj.dst ≠ some t
  mode : mode = 1 ∨ mode = 2

theorem drawOk_ok {n mode : Nat} {ops : Array Oper} (h : drawOk P n mode ops = true) : DOk P n mode ops := by
  unfold drawOk at h
  simp only [Bool.and_eq_true, List.all_eq_true, Bool.or_eq_true, beq_iff_eq] at h
  obtain ⟨⟨⟨⟨⟨⟨h1, h2⟩, h3⟩, h4⟩, h5⟩, h7⟩, h6⟩ := h
  refine ⟨h1, ?_, ?_, ?_, ?_, ?_, h6⟩
  · intro i j oi oj t hi hj hd hd'
    rcases h2 _ (mem_zip hi) _ (mem_zip hj) with h | h
    · exact h
    · simp only [hd] at h
      rw [hd'] at h; simp at h
  · intro i j oi oj t hi hj hne hd ht
    rcases h3 _ (mem_zip hi) _ (mem_zip hj) with h | h
    · exact absurd h hne
    · simp only [hd] at h
      simp only [Bool.or_eq_true, Bool.not_eq_true'] at h
      rcases h with h | h
      · have : (oi.looksAt ops).contains t = true := by simpa using ht
        rw [this] at h; cases h
      · exact h
  · intro i o hi e he hb
    rcases h4 _ (mem_zip hi) e he with h | h
    · simp [hb] at h
    · simpa using h
  · intro i o hi hw
    have := h5 _ (mem_zip hi)
    rcases hw with ⟨a, b, c, hw⟩ | ⟨a, b, c, d, hw⟩
    · simp only [hw] at this
      by_cases hm : mode = 1
      · simpa [hm] using this
      · simpa [hm] using this
    · simp only [hw] at this
      by_cases hm : mode = 1
      · simpa [hm] using this
      · simpa [hm] using this
  · intro i j oi oj t hi hj hr hij hd
    have := h7 _ (mem_zip hi)
    simp only [hr, List.all_eq_true, Bool.or_eq_true, decide_eq_true_eq] at this
    rcases this _ (mem_zip hj) with h | h
    · omega
    · simp only at h; rw [hd] at h; simp at h

theorem cmpB_symm (b : List Nat) (i j : Nat) (h : i ≠ j) : cmpB b i j = cmpB b j i := by
  unfold cmpB
  by_cases h1 : j < i
  · rw [if_pos h1, if_neg (by omega)]
  · rw [if_neg h1, if_pos (by omega)]

theorem weakB_cmp {ops : Array Oper} {i j : Nat} {oj : Oper} (h : weakB P ops i = true) (hj : ops[j]? = some oj) (hne : i ≠ j) (h1 : pureOp P oj.op = false) (h2 : readOp oj.op = none) :
    cmpB (befMasks ops.toList []) i j = true := by
  unfold weakB at h
  simp only [List.all_eq_true, Bool.or_eq_true, beq_iff_eq] at h
  rcases h _ (mem_zip hj) with ((h | h) | h) | h
  · exact absurd h.symm hne
  · simp only [h1] at h; cases h
  · simp only [h2] at h; cases h
  · exact h
theorem barrierB_cmp {ops : Array Oper} {i j : Nat} {oj : Oper} (h : barrierB P ops i = true) (hj : ops[j]? = some oj) (hne : i ≠ j) (h1 : pureOp P oj.op = false) :
    cmpB (befMasks ops.toList []) i j = true := by
  unfold barrierB at h
  simp only [List.all_eq_true, Bool.or_eq_true, beq_iff_eq] at h
  rcases h _ (mem_zip hj) with (h | h) | h
  · exact absurd h.symm hne
  · simp only [h1] at h; cases h
  · exact h
theorem barrier_weak {ops : Array Oper} {i : Nat} (h : barrierB P ops i = true) : weakB P ops i = true := by
  unfold barrierB weakB at *
  simp only [List.all_eq_true, Bool.or_eq_true, beq_iff_eq] at *
  intro x hx
  rcases h x hx with (h | h) | h
  · exact .inl (.inl (.inl h))
  · exact .inl (.inl (.inr h))
  · exact .inr h

theorem floatsOf_mem {ops : Array Oper} {i j : Nat} {oj : Oper} {x : Operand} (hj : ops[j]? = some oj) (hne : i ≠ j) (hr : readOp oj.op = some x) (hc : cmpB (befMasks ops.toList []) i j = false) : x ∈ floatsOf ops i := by
  unfold floatsOf
  rw [List.mem_filterMap]
  refine ⟨_, mem_zip hj, ?_⟩
  have : (j == i) = false := by simp; exact fun e => hne e.symm
  simp [this, hc, hr]

theorem Rel.back {m : Map} {A B : AHeap} {w : World} (h : Rel m A w) (hb : ∀ id l, m id = some l → B.get id = A.get id ∨ B.get id = .dead) : Rel m B w := by
  have live : ∀ id l, m id = some l → ∀ o, B.get id = o → o ≠ .dead → A.get id = o := fun id l hm o ho hd => by
    rcases hb id l hm with e | e
    · rw [← e]; exact ho
    · rw [e] at ho; exact absurd ho.symm hd
  have hotB : ∀ id l, m id = some l → B.hot id → A.hot id := fun id l hm hh => by
    rcases hb id l hm with e | e
    · rw [AHeap.hot, ← e]; exact hh
    · rw [AHeap.hot, e] at hh; exact hh.elim
  refine ⟨h.dom, fun id l e cs hm hg => h.ro id l e cs hm (live id l hm _ hg (by simp)), fun id l e cs hm hg => h.rw id l e cs hm (live id l hm _ hg (by simp)),
    fun id l es hm hg => h.mp id l es hm (live id l hm _ hg (by simp)), fun id id' l l' hm hm' he hne hh => ?_⟩
  have := h.apart id id' l l' hm hm' he hne (hotB id l hm hh)
  rcases hb id' l' hm' with e | e
  · rw [e]; exact this
  · exact e

/-- A step told over an elder heap (A, B) is a step over the one at hand (C), which holds more. -/
theorem Rel.forth {m m' : Map} {A B C : AHeap} {w w' : World} (hC : Rel m C w) (st : Step m A w m' B w') (hk : AKeep A B)
    (hA : ∀ id, id < A.size → C.get id = A.get id) (hB : ∀ id, id < B.size → C.get id = B.get id) : Rel m' C w' := by
  have old : ∀ id l, m' id = some l → ¬ id < B.size → m id = some l := fun id l hm hlt => by
    rcases st.new id l hm with h | ⟨_, h, _⟩
    · exact h
    · exact absurd h hlt
  -- the block of a later object is left alone
  have blk : ∀ id l, m id = some l → ¬ id < B.size → C.get id ≠ .dead → w'.heap[l.blk]? = w.heap[l.blk]? := fun id l hm hlt hd => by
    refine st.kept _ (hC.dom _ _ hm) (fun id0 l0 h0 he hh => ?_)
    have hlt0 : id0 < A.size := lt_of_hot hh
    have hne : id0 ≠ id := by have := hk.size; omega
    exact hd (hC.apart id0 id l0 l h0 hm he hne (by rw [AHeap.hot, hA id0 hlt0]; exact hh))
  have dom' : ∀ id l, m' id = some l → l.blk < w'.heap.size := st.rel.dom
  refine ⟨dom', ?_, ?_, ?_, ?_⟩
  · intro id l e cs hm hg
    by_cases hlt : id < B.size
    · rw [hB id hlt] at hg; exact st.rel.ro id l e cs hm hg
    · have hmo := old id l hm hlt
      obtain ⟨a1, a2⟩ := hC.ro id l e cs hmo hg
      have hb := blk id l hmo hlt (by rw [hg]; simp)
      exact ⟨a1, fun j hj => let ⟨v', b1, b2⟩ := a2 j hj; ⟨v', (World.cell?_of_block (a := ⟨l.blk, l.at_ + j, none⟩) hb).trans b1, b2.mono st.ext⟩⟩
  · intro id l e cs hm hg
    by_cases hlt : id < B.size
    · rw [hB id hlt] at hg; exact st.rel.rw id l e cs hm hg
    · have hmo := old id l hm hlt
      obtain ⟨a1, a2, a3, a4⟩ := hC.rw id l e cs hmo hg
      have hb := blk id l hmo hlt (by rw [hg]; simp)
      exact ⟨a1, a2, fun j hj => let ⟨v', b1, b2⟩ := a3 j hj; ⟨v', (World.cell?_of_block (a := ⟨l.blk, l.at_ + j, none⟩) hb).trans b1, b2.mono st.ext⟩,
        fun j hj => by rw [World.cell?_of_block (a := ⟨l.blk, l.at_ + j, none⟩) hb, World.frozen?_of_block (a := ⟨l.blk, l.at_ + j, none⟩) hb]; exact a4 j hj⟩
  · intro id l es hm hg
    by_cases hlt : id < B.size
    · rw [hB id hlt] at hg; exact st.rel.mp id l es hm hg
    · have hmo := old id l hm hlt
      obtain ⟨es', clk, h4, h5, h6, h7⟩ := hC.mp id l es hmo hg
      have hb := blk id l hmo hlt (by rw [hg]; simp)
      exact ⟨es', clk, hb.trans h4, h5, h6, fun j k v hj => let ⟨v', b1, b2⟩ := h7 j k v hj; ⟨v', b1, b2.mono st.ext⟩⟩
  · intro id id' l l' hm hm' he hne hh
    have newblk : ∀ x lx, m' x = some lx → m x = some lx ∨ (w.heap.size ≤ lx.blk ∨ ∃ id0 l0, m id0 = some l0 ∧ l0.blk = lx.blk ∧ C.hot id0 ∧ id0 < A.size) := fun x lx hx => by
      rcases st.new x lx hx with h | ⟨_, _, h | ⟨id0, l0, h1, h2, h3⟩⟩
      · exact .inl h
      · exact .inr (.inl h)
      · exact .inr (.inr ⟨id0, l0, h1, h2, by rw [AHeap.hot, hA id0 (lt_of_hot h3)]; exact h3, lt_of_hot h3⟩)
    by_cases h1 : id < B.size <;> by_cases h2 : id' < B.size
    · rw [hB id' h2]
      exact st.rel.apart id id' l l' hm hm' he hne (by rw [AHeap.hot, ← hB id h1]; exact hh)
    · have hmo' := old id' l' hm' h2
      rcases newblk id l hm with h | h | ⟨id0, l0, h3, h4, h5, h6⟩
      · exact hC.apart id id' l l' h hmo' he hne hh
      · have := hC.dom _ _ hmo'; omega
      · exact hC.apart id0 id' l0 l' h3 hmo' (h4.trans he) (by have := hk.size; omega) h5
    · have hmo := old id l hm h1
      rcases newblk id' l' hm' with h | h | ⟨id0, l0, h3, h4, h5, h6⟩
      · exact hC.apart id id' l l' hmo h he hne hh
      · have := hC.dom _ _ hmo; omega
      · have := hC.apart id id0 l l0 hmo h3 (he.trans h4.symm) (by have := hk.size; omega) hh
        rw [AHeap.hot, this] at h5; exact h5.elim
    · exact hC.apart id id' l l' (old id l hm h1) (old id' l' hm' h2) he hne hh

end Go.Ah

/- Regions whose order is drawn: the facts of a trace that hold in whatever order. -/
namespace Go.Ah
variable {P : Program} {n mode : Nat} {ops : Array Oper} {S : Nat → Slots} {G : Nat → AHeap} {v : Nat → Value}

/-- Operation i turns what was there. -/
def Writes (ops : Array Oper) (S : Nat → Slots) (G : Nat → AHeap) (i : Nat) : Prop := ∃ o, ops[i]? = some o ∧ wantedA ops (S i) o = true ∧ ¬ AKeep (G i) (G (i + 1))

theorem Writes.lt {i : Nat} (h : Writes ops S G i) : i < ops.size := by
  obtain ⟨o, ho, _⟩ := h
  rcases Nat.lt_or_ge i ops.size with h | h
  · exact h
  · rw [Array.getElem?_eq_none h] at ho; cases ho

theorem aBuiltin_len {H H' : AHeap} {b : Builtin} {ts : List TypeId} {xs : List Value} {u : Value} (hb : b = .len ∨ b = .max ∨ b = .min) (h : aBuiltin P H b ts xs (fun a c => a = u ∧ c = H')) : H' = H := by
  unfold aBuiltin at h
  split at h
  · obtain ⟨w, ⟨_, e⟩, _⟩ := aLen_fix h; exact e.symm
  · simp at hb
  · obtain ⟨w, ⟨_, e⟩, _⟩ := aMaxMin_fix h; exact e.symm
  · obtain ⟨w, ⟨_, e⟩, _⟩ := aMaxMin_fix h; exact e.symm
  · exact h.elim

/-- What turns what was there stands apart from all but silent operations; with what is read beside it nothing is turned. -/
theorem Writes.weak (tr : Tr P mode ops 0 S G v) (hd : DOk P n mode ops) {i : Nat} (h : Writes ops S G i) : weakB P ops i = true ∧
    (∀ j oj x, ops[j]? = some oj → i ≠ j → readOp oj.op = some x → cmpB (befMasks ops.toList []) i j = false → ∀ id, objOf (evO (S ops.size) x) = some id → (G (i + 1)).get id = (G i).get id) := by
  obtain ⟨o, ho, hw, hk⟩ := h
  obtain ⟨hS0, hcase⟩ := tr.step i o (Nat.zero_le _) ho
  rcases hcase with ⟨hw1, hop, hdc⟩ | ⟨hw', hw2⟩
  · have fl := tr.float i o (Nat.zero_le _) ho hw
    -- which operation is it?
    have hq : quietOp o.op = false := by
      cases hq : quietOp o.op with
      | false => rfl
      | true => exact absurd ((aOp_fixed (opsOk_get hd.ok ho).1 hop).2.1 hq) hk
    have hacc : mode = 2 → accOf mode o.op i (G i) (G (i + 1)) [] ≠ [] := by
      intro e; subst e
      obtain ⟨dst, op, type, pos, after, guard⟩ := o
      cases op <;> simp only [quietOp] at hq <;> first | (cases hq; done) | simp [accOf]
    have hbar : if mode = 1 then barrierB P ops i = true else weakB P ops i = true := by
      obtain ⟨dst, op, type, pos, after, guard⟩ := o
      cases op <;> simp only [quietOp] at hq <;> try (cases hq; done)
      case store a b c => exact hd.writes i _ ho (.inl ⟨a, b, c, rfl⟩)
      case mapUpdate a b c d => exact hd.writes i _ ho (.inr ⟨a, b, c, d, rfl⟩)
      case call c =>
        obtain ⟨callee, args, argTypes⟩ := c
        have notLen : ∀ b, callee = .builtin b → (b = .len ∨ b = .max ∨ b = .min) → False := by
          intro b e hb
          subst e
          simp only [aOp] at hop
          have := aBuiltin_len hb hop
          exact hk (by rw [this]; exact AKeep.refl _)
        rcases hd.mode with rfl | rfl
        · simp only [if_true]
          simp only [drawCond] at hdc
          cases callee with
          | builtin b => cases b <;> first | exact (hdc.resolve_left hk) | exact (notLen _ rfl (by simp)).elim
          | value f => exact hdc.resolve_left hk
          | invoke r mm => exact hdc.resolve_left hk
        · rw [if_neg (by omega)]
          simp only [drawCond] at hdc
          cases callee with
          | builtin b => cases b <;> first | exact (hdc.resolve_left hk) | exact (notLen _ rfl (by simp)).elim
          | value f => exact hdc.resolve_left hk
          | invoke r mm => exact hdc.resolve_left hk
    rcases hd.mode with rfl | rfl
    · rw [if_pos rfl] at hbar
      refine ⟨barrier_weak hbar, fun j oj x hj hne hr hc => ?_⟩
      have hp : pureOp P oj.op = false := by
        obtain ⟨dst, op, type, pos, after, guard⟩ := oj
        cases op <;> simp only [readOp] at hr <;> first | (cases hr; done) | rfl
      rw [barrierB_cmp hbar hj hne hp] at hc; cases hc
    · rw [if_neg (by omega)] at hbar
      refine ⟨hbar, fun j oj x hj hne hr hc => ?_⟩
      rcases fl (hacc rfl) x (floatsOf_mem hj hne hr hc) with h | h
      · exact absurd h hk
      · exact h
  · rw [hw] at hw'; cases hw'

theorem Tr.keep (tr : Tr P mode ops 0 S G v) {i : Nat} {o : Oper} (ho : ops[i]? = some o) (h : ¬ Writes ops S G i) : AKeep (G i) (G (i + 1)) := by
  obtain ⟨_, hcase⟩ := tr.step i o (Nat.zero_le _) ho
  rcases hcase with ⟨hw, _, _⟩ | ⟨_, _, hG⟩
  · by_cases hk : AKeep (G i) (G (i + 1))
    · exact hk
    · exact absurd ⟨o, ho, hw, hk⟩ h
  · rw [hG]; exact AKeep.refl _

/-- A stretch without writing operations. -/
theorem Tr.stretch (tr : Tr P mode ops 0 S G v) (i : Nat) : ∀ k, i ≤ k → k ≤ ops.size → (∀ j, i ≤ j → j < k → ¬ Writes ops S G j) → AKeep (G i) (G k) := by
  intro k hik
  induction hik with
  | refl => intro _ _; exact AKeep.refl _
  | step h ih =>
    rename_i k
    intro hk hw
    refine (ih (by omega) (fun j h1 h2 => hw j h1 (by omega))).trans ?_
    have hlt : k < ops.size := by omega
    exact tr.keep (Array.getElem?_eq_getElem hlt) (hw k h (by omega))

/-- What a slot holds on the way. -/
theorem Tr.slot (tr : Tr P mode ops 0 S G v) (hd : DOk P n mode ops) (t : Tmp) : ∀ i, i ≤ ops.size →
    (∃ j o, j < i ∧ ops[j]? = some o ∧ o.dst = some t ∧ S i t = v j) ∨ ((∀ j o, j < i → ops[j]? = some o → o.dst ≠ some t) ∧ S i t = S 0 t)
  | 0, _ => .inr ⟨fun j o h => by omega, rfl⟩
  | i + 1, hi => by
    have hlt : i < ops.size := by omega
    obtain ⟨o, ho⟩ : ∃ o, ops[i]? = some o := ⟨_, Array.getElem?_eq_getElem hlt⟩
    obtain ⟨hS, _⟩ := tr.step i o (Nat.zero_le _) ho
    by_cases e : o.dst = some t
    · exact .inl ⟨i, o, by omega, ho, e, by rw [hS, e]; simp [Slots.put]⟩
    · have hput : S (i + 1) t = S i t := by
        rw [hS]
        cases hdst : o.dst with
        | none => rfl
        | some d =>
          simp only [Slots.put]
          rw [if_neg (fun e' => e (by rw [hdst, e']))]
      rcases Tr.slot tr hd t i (by omega) with ⟨j, oj, h1, h2, h3, h4⟩ | ⟨h1, h2⟩
      · exact .inl ⟨j, oj, by omega, h2, h3, hput.trans h4⟩
      · refine .inr ⟨fun j oj hj hoj => ?_, hput.trans h2⟩
        by_cases ej : j = i
        · subst ej; rw [ho] at hoj; cases hoj; exact e
        · exact h1 j oj (by omega) hoj

/-- The state of a region some of whose operations have been carried out. -/
structure DInv (P : Program) (n : Nat) (ops : Array Oper) (S : Nat → Slots) (G : Nat → AHeap) (v : Nat → Value) (m0 : Map) (w0 : World) (d0 : List Deferred)
    (L : Array Bool) (k : Nat) (m : Map) (a : Act) (w : World) : Prop where
  lsize : L.size = ops.size
  closed : Closed ops (fun i => L.getD i false = true)
  tsize : a.tmps.size = n
  done : ∀ i o t, L.getD i false = true → ops[i]? = some o → o.dst = some t → VRel m (v i) (a.tmps.getD t undef)
  rest : ∀ t, t < n → (∀ i o, L.getD i false = true → ops[i]? = some o → o.dst ≠ some t) → VRel m (S 0 t) (a.tmps.getD t undef)
  defers : a.defers = d0
  kle : k ≤ ops.size
  kdone : ∀ i, i < k → Writes ops S G i → L.getD i false = true
  kfirst : k = ops.size ∨ (Writes ops S G k ∧ L.getD k false = false)
  rel : Rel m (G k) w
  dom : ∀ id l, m id = some l → m0 id = some l ∨ ∃ j o, L.getD j false = true ∧ ops[j]? = some o ∧ wantedA ops (S j) o = true ∧ (G j).size ≤ id ∧ id < (G (j + 1)).size
  ext : ∀ id x, m0 id = some x → m id = some x
  new : ∀ id x, m id = some x → m0 id = some x ∨ (w0.heap.size ≤ x.blk ∨ ∃ id0 l, m0 id0 = some l ∧ l.blk = x.blk ∧ (G 0).hot id0)
  kept : ∀ b, b < w0.heap.size → (∀ id l, m0 id = some l → l.blk = b → ¬ (G 0).hot id) → w.heap[b]? = w0.heap[b]?
  size : w0.heap.size ≤ w.heap.size
  os : w.os = w0.os
  tape : w.tape = w0.tape
  output : w.output = w0.output

theorem exists_first (W : Nat → Prop) (L : Array Bool) (N : Nat) : ∃ k, k ≤ N ∧ (∀ i, i < k → W i → L.getD i false = true) ∧ (k = N ∨ (W k ∧ L.getD k false = false)) := by
  classical
  induction N with
  | zero => exact ⟨0, Nat.le_refl _, fun i h => by omega, .inl rfl⟩
  | succ N ih =>
    obtain ⟨k, h1, h2, h3⟩ := ih
    rcases h3 with rfl | h3
    · by_cases hw : W k ∧ L.getD k false = false
      · exact ⟨k, by omega, h2, .inr hw⟩
      · refine ⟨k + 1, by omega, fun i hi hW => ?_, .inl rfl⟩
        by_cases e : i = k
        · subst e
          cases hL : L.getD i false with
          | true => rfl
          | false => exact absurd ⟨hW, hL⟩ hw
        · exact h2 i (by omega) hW
    · exact ⟨k, by omega, h2, .inr h3⟩

/-- A region's operation is ready. -/
theorem ready_iff {L : Array Bool} (hL : L.size = ops.size) {i : Nat} (h : i ∈ Region.ready .any ops L) : ∃ o, ops[i]? = some o ∧ L.getD i false = false ∧ ∀ e ∈ o.after.toList, Region.binds .any e = true → L.getD e.on false = true := by
  unfold Region.ready at h
  rw [List.mem_filter] at h
  obtain ⟨h1, h2⟩ := h
  have hlt : i < ops.size := by simpa using h1
  have hlt' : i < L.size := by omega
  simp only [Bool.and_eq_true, Bool.not_eq_true', Array.getElem?_eq_getElem hlt, Option.map_some, Option.getD_some] at h2
  refine ⟨_, Array.getElem?_eq_getElem hlt, ?_, fun e he hb => ?_⟩
  · have := h2.1
    simp only [Array.getD_eq_getD_getElem?, Array.getElem?_eq_getElem hlt', Option.getD_some] at this ⊢
    exact this
  · have h3 := h2.2
    rw [← Array.all_toList] at h3
    have := List.all_eq_true.1 h3 e he
    simpa [hb] using this

theorem ready_mk {L : Array Bool} (hL : L.size = ops.size) {i : Nat} {o : Oper} (ho : ops[i]? = some o) (h1 : L.getD i false = false) (h2 : ∀ e ∈ o.after.toList, Region.binds .any e = true → L.getD e.on false = true) : i ∈ Region.ready .any ops L := by
  have hlt : i < ops.size := by
    rcases Nat.lt_or_ge i ops.size with h | h
    · exact h
    · rw [Array.getElem?_eq_none h] at ho; cases ho
  have hlt' : i < L.size := by omega
  unfold Region.ready
  rw [List.mem_filter]
  refine ⟨by simpa using hlt, ?_⟩
  simp only [Bool.and_eq_true, Bool.not_eq_true', ho, Option.map_some, Option.getD_some]
  refine ⟨?_, ?_⟩
  · simp only [Array.getD_eq_getD_getElem?, Array.getElem?_eq_getElem hlt', Option.getD_some] at h1 ⊢
    exact h1
  · rw [← Array.all_toList]
    refine List.all_eq_true.2 fun e he => ?_
    cases hb : Region.binds .any e with
    | false => rfl
    | true => simp [h2 e he hb]

theorem set_getD {L : Array Bool} {i j : Nat} (hi : i < L.size) : (L.setIfInBounds i true).getD j false = if j = i then true else L.getD j false := by
  simp only [Array.getD_eq_getD_getElem?]
  by_cases e : j = i
  · subst e; simp [hi]
  · rw [Array.getElem?_setIfInBounds_ne (Ne.symm e), if_neg e]

end Go.Ah

/- Regions whose order is drawn: one operation more, in whatever order. -/
namespace Go.Ah
variable {P : Program} {n mode : Nat} {ops : Array Oper} {S : Nat → Slots} {G : Nat → AHeap} {v : Nat → Value}
variable {m0 : Map} {w0 : World} {d0 : List Deferred} {L : Array Bool} {k : Nat} {m : Map} {a : Act} {w : World}

theorem DInv.hot0 (tr : Tr P mode ops 0 S G v) (hd : DOk P n mode ops) (hf : Free m0 (G 0) (G ops.size)) (I : DInv P n ops S G v m0 w0 d0 L k m a w) {x : Nat} (hx : x ≤ ops.size) {id : Nat} {l : Loc} (hm : m id = some l) (hh : (G x).hot id) :
    w0.heap.size ≤ l.blk ∨ ∃ id0 l0, m0 id0 = some l0 ∧ l0.blk = l.blk ∧ (G 0).hot id0 := by
  have e1 := tr.ext_le hd.ok 0 x (Nat.zero_le _) hx
  have e2 := tr.ext_le hd.ok x ops.size hx (Nat.le_refl _)
  rcases I.new id l hm with h | h
  · have hlt : id < (G 0).size := by
      rcases Nat.lt_or_ge id (G 0).size with h1 | h1
      · exact h1
      · rw [hf id h1 (Nat.lt_of_lt_of_le (lt_of_hot hh) e2.size)] at h; cases h
    exact .inr ⟨id, l, h, rfl, e1.hot_old hlt hh⟩
  · exact h

theorem DInv.advance (tr : Tr P mode ops 0 S G v) (hd : DOk P n mode ops) (hf : Free m0 (G 0) (G ops.size)) (I : DInv P n ops S G v m0 w0 d0 L k m a w)
    {i : Nat} {o : Oper} (ho : ops[i]? = some o) (h1 : L.getD i false = false) (h2 : ∀ e ∈ o.after.toList, Region.binds .any e = true → L.getD e.on false = true)
    {x : Nat} (hx : x ≤ ops.size) {B : AHeap} {m' : Map} {w' : World} {v' : Value} (st : Step m (G x) w m' B w') (hv : VRel m' (v i) v') {k' : Nat} (hk1 : k' ≤ ops.size)
    (hk2 : ∀ j, j < k' → Writes ops S G j → (L.setIfInBounds i true).getD j false = true) (hk3 : k' = ops.size ∨ (Writes ops S G k' ∧ (L.setIfInBounds i true).getD k' false = false))
    (hrel : Rel m' (G k') w')
    (hdom : ∀ id l, m' id = some l → m id = some l ∨ (wantedA ops (S i) o = true ∧ (G i).size ≤ id ∧ id < (G (i + 1)).size)) :
    DInv P n ops S G v m0 w0 d0 (L.setIfInBounds i true) k' m' (a.put o.dst v') w' := by
  have hlt : i < ops.size := by
    rcases Nat.lt_or_ge i ops.size with h | h
    · exact h
    · rw [Array.getElem?_eq_none h] at ho; cases ho
  have hL : i < L.size := by rw [I.lsize]; exact hlt
  have sg : ∀ j, (L.setIfInBounds i true).getD j false = if j = i then true else L.getD j false := fun j => set_getD hL
  have hdst : dstOk n o.dst = true := (opsOk_get hd.ok ho).2.1
  refine ⟨by simp [I.lsize], ?_, ?_, ?_, ?_, by rw [put_defers', I.defers], hk1, hk2, hk3, hrel, ?_, fun id y h => st.ext _ _ (I.ext _ _ h), ?_, ?_, Nat.le_trans I.size st.size, st.os.trans I.os, st.tape.trans I.tape, st.output.trans I.output⟩
  · intro j oj hj hoj e he hb
    simp only [sg] at hj ⊢
    split
    · rfl
    · split at hj
      · rename_i ej; subst ej; rw [ho] at hoj; cases hoj; exact h2 e he hb
      · exact I.closed j oj hj hoj e he hb
  · cases hdd : o.dst with
    | none => simp [Act.put, I.tsize]
    | some d => simp [Act.put, I.tsize]
  · intro j oj t hj hoj hdj
    rw [sg] at hj
    by_cases e : j = i
    · subst e
      rw [ho] at hoj; cases hoj
      rw [hdj] at hdst ⊢
      have hlt : t < n := of_decide_eq_true hdst
      simp only [Act.put, Array.getD_eq_getD_getElem?]
      have : t < a.tmps.size := by rw [I.tsize]; exact hlt
      simp [this, hv]
    · rw [if_neg e] at hj
      have := (I.done j oj t hj hoj hdj).mono st.ext
      cases hdd : o.dst with
      | none => simpa [Act.put, hdd] using this
      | some d =>
        have hne : d ≠ t := by
          intro e'
          subst e'
          exact e (hd.dist j i oj o d hoj ho hdj hdd)
        simp only [Act.put, Array.getD_eq_getD_getElem?] at this ⊢
        rw [Array.getElem?_setIfInBounds_ne hne]
        exact this
  · intro t ht hno
    have hne : o.dst ≠ some t := hno i o (by rw [sg, if_pos rfl]) ho
    have := (I.rest t ht (fun j oj hj hoj => hno j oj (by rw [sg]; split <;> simp_all) hoj)).mono st.ext
    cases hdd : o.dst with
    | none => simpa [Act.put, hdd] using this
    | some d =>
      have hne' : d ≠ t := fun e => hne (by rw [hdd, e])
      simp only [Act.put, Array.getD_eq_getD_getElem?] at this ⊢
      rw [Array.getElem?_setIfInBounds_ne hne']
      exact this
  · intro id l h
    rcases hdom id l h with h | ⟨hw, h3, h4⟩
    · rcases I.dom id l h with h | ⟨j, oj, hj, r⟩
      · exact .inl h
      · exact .inr ⟨j, oj, by rw [sg]; split <;> simp_all, r⟩
    · exact .inr ⟨i, o, by rw [sg, if_pos rfl], ho, hw, h3, h4⟩
  · intro id y h
    rcases st.new id y h with h | ⟨_, _, h | ⟨id0, l, h3, h4, h5⟩⟩
    · exact I.new id y h
    · exact .inr (.inl (Nat.le_trans I.size h))
    · rw [← h4]
      exact .inr (I.hot0 tr hd hf hx h3 h5)
  · intro b hb hn
    rw [st.kept b (Nat.lt_of_lt_of_le hb I.size) (fun id l hm e hh => ?_), I.kept b hb hn]
    rcases I.hot0 tr hd hf hx hm hh with h | ⟨id0, l0, h3, h4, h5⟩
    · omega
    · exact hn id0 l0 h3 (h4.trans e) h5

/-- The slots as they are at hand: what is carried out has its value, the others what they had. -/
theorem DInv.slots (I : DInv P n ops S G v m0 w0 d0 L k m a w) (hd : DOk P n mode ops) : ∃ σ : Slots, TRel m n σ a.tmps ∧
    (∀ i o t, L.getD i false = true → ops[i]? = some o → o.dst = some t → σ t = v i) ∧ (∀ t, (∀ i o, L.getD i false = true → ops[i]? = some o → o.dst ≠ some t) → σ t = S 0 t) := by
  classical
  refine ⟨fun t => if h : ∃ i o, L.getD i false = true ∧ ops[i]? = some o ∧ o.dst = some t then v h.choose else S 0 t, ⟨I.tsize, fun t ht => ?_⟩, fun i o t hi ho hdd => ?_, fun t hno => ?_⟩
  · by_cases h : ∃ i o, L.getD i false = true ∧ ops[i]? = some o ∧ o.dst = some t
    · rw [dif_pos h]
      obtain ⟨o, h1, h2, h3⟩ := h.choose_spec
      exact I.done _ o t h1 h2 h3
    · rw [dif_neg h]
      exact I.rest t ht (fun i o hi ho hdd => h ⟨i, o, hi, ho, hdd⟩)
  · have h : ∃ i o, L.getD i false = true ∧ ops[i]? = some o ∧ o.dst = some t := ⟨i, o, hi, ho, hdd⟩
    dsimp only
    rw [dif_pos h]
    obtain ⟨o', h1, h2, h3⟩ := h.choose_spec
    rw [hd.dist _ i o' o t h2 ho h3 hdd]
  · have h : ¬ ∃ i o, L.getD i false = true ∧ ops[i]? = some o ∧ o.dst = some t := fun ⟨i, o, hi, ho, hdd⟩ => hno i o hi ho hdd
    dsimp only
    rw [dif_neg h]

theorem DInv.cmp (I : DInv P n ops S G v m0 w0 d0 L k m a w) {i : Nat} {o : Oper} (ho : ops[i]? = some o) (h1 : L.getD i false = false) (h2 : ∀ e ∈ o.after.toList, Region.binds .any e = true → L.getD e.on false = true)
    {j : Nat} (_ : i ≠ j) (hc : cmpB (befMasks ops.toList []) i j = true) : (j < i → L.getD j false = true) ∧ (i < j → L.getD j false = false) := by
  unfold cmpB at hc
  refine ⟨fun h => ?_, fun h => ?_⟩
  · rw [if_pos h] at hc
    exact before_in I.closed hc (fun o' ho' => by rw [ho] at ho'; cases ho'; exact h2)
  · rw [if_neg (by omega)] at hc
    cases hL : L.getD j false with
    | false => rfl
    | true =>
      have := before_in I.closed hc (fun o' ho' => I.closed j o' hL ho')
      rw [h1] at this; cases this

/-- An operation finds its operands as in the text's order. -/
theorem DInv.operands (I : DInv P n ops S G v m0 w0 d0 L k m a w) (tr : Tr P mode ops 0 S G v) (hd : DOk P n mode ops) {i : Nat} {o : Oper} (ho : ops[i]? = some o) (h1 : L.getD i false = false) (h2 : ∀ e ∈ o.after.toList, Region.binds .any e = true → L.getD e.on false = true)
    {σ : Slots} (s1 : ∀ i o t, L.getD i false = true → ops[i]? = some o → o.dst = some t → σ t = v i) (s2 : ∀ t, (∀ i o, L.getD i false = true → ops[i]? = some o → o.dst ≠ some t) → σ t = S 0 t) :
    ∀ t ∈ o.looksAt ops, σ t = S i t := by
  intro t ht
  have hlt : i < ops.size := by
    rcases Nat.lt_or_ge i ops.size with h | h
    · exact h
    · rw [Array.getElem?_eq_none h] at ho; cases ho
  rcases tr.slot hd t i (by omega) with ⟨j, oj, h3, h4, h5, h6⟩ | ⟨h3, h4⟩
  · have hc := hd.order i j o oj t ho h4 (by omega) h5 ht
    have hLj := (I.cmp ho h1 h2 (by omega) hc).1 h3
    rw [s1 j oj t hLj h4 h5, h6]
  · rw [h4]
    refine s2 t fun j oj hj hoj hdj => ?_
    by_cases e : j = i
    · subst e; rw [h1] at hj; cases hj
    · have hc := hd.order i j o oj t ho hoj (Ne.symm e) hdj ht
      rcases Nat.lt_or_gt_of_ne e with hlt' | hgt
      · exact h3 j oj hlt' hoj hdj
      · have := (I.cmp ho h1 h2 (Ne.symm e) hc).2 hgt
        rw [this] at hj; cases hj

end Go.Ah

/- Regions whose order is drawn: sound. -/
namespace Go.Ah
variable {P : Program} {n mode : Nat} {ops : Array Oper} {S : Nat → Slots} {G : Nat → AHeap} {v : Nat → Value}
variable {m0 : Map} {w0 : World} {d0 : List Deferred} {L : Array Bool} {k : Nat} {m : Map} {a : Act} {w : World}

theorem guard_looks {o : Oper} {t : Tmp} (h : guardTmp ops o = some t) : t ∈ o.looksAt ops := by
  unfold guardTmp at h
  unfold Oper.looksAt
  refine List.mem_append_right _ ?_
  cases hg : o.guard with
  | none => rw [hg] at h; cases h
  | some gw =>
    obtain ⟨j, want⟩ := gw
    rw [hg] at h
    simp only at h
    simp [h]
theorem opd_looks {o : Oper} {t : Tmp} (h : Operand.tmp t ∈ o.op.operands) : t ∈ o.looksAt ops := by
  unfold Oper.looksAt
  refine List.mem_append_left _ (List.mem_filterMap.2 ⟨.tmp t, by simpa using h, rfl⟩)

theorem objOf_dom {σ : Slots} {tmps : Array Value} (ht : TRel m n σ tmps) {x : Operand} (hx : tmpsOk n x = true) {id : Nat} (h : objOf (evO σ x) = some id) : ∃ l, m id = some l := by
  have key : ∀ u u', VRel m u u' → objOf u = some id → ∃ l, m id = some l := by
    intro u u' hr hu
    cases hr <;> simp [objOf] at hu
    · subst hu; exact ⟨_, by assumption⟩
    · subst hu; exact ⟨_, by assumption⟩
    · subst hu; exact ⟨_, by assumption⟩
  exact key _ _ (EvRel (a := ⟨tmps, []⟩) ht hx) h

theorem aOp_read_live {σ : Slots} {H H' : AHeap} {o : Oper} {u : Value} {x : Operand} (hr : readOp o.op = some x) (h : aOp P σ H o (fun a b => a = u ∧ b = H')) {id : Nat} (hid : objOf (evO σ x) = some id) : H.get id ≠ .dead := by
  obtain ⟨dst, op, type, pos, after, guard⟩ := o
  cases op <;> simp only [readOp] at hr <;> try (cases hr; done)
  case load t y =>
    cases hr
    simp only [aOp] at h
    unfold aLoad at h
    split at h
    · rename_i id' off e
      rw [e] at hid; cases hid
      split at h
      · rename_i x cs h1 h2
        intro e'; rw [e'] at h2; cases h2
      · exact h.elim
    · exact h.elim
  case slice t y lo hi mx =>
    cases hr
    simp only [aOp] at h
    unfold aSlice at h
    split at h
    · rename_i s hu e; rw [e] at hid; cases hid
    · rename_i e hu e2; rw [e2] at hid; cases hid
    · rename_i e id' off len cap hu e2
      rw [e2] at hid; cases hid
      split at h
      · intro e'; have := h.1; rw [e'] at this; cases this
      · exact h.elim
    · exact h.elim
  case lookup t y key ok =>
    cases hr
    simp only [aOp] at h
    unfold aLookup at h
    split at h
    · rename_i kt et id' hu e
      rw [e] at hid; cases hid
      split at h
      · rename_i h1 h2 h3
        intro e'; rw [e'] at h3; cases h3
      · exact h.elim
    · exact h.elim

theorem readOp_opd {o : Oper} {x : Operand} (h : readOp o.op = some x) : x ∈ o.op.operands := by
  obtain ⟨dst, op, type, pos, after, guard⟩ := o
  cases op <;> simp only [readOp] at h <;> try (cases h; done)
  all_goals (cases h; simp [Op.operands])

theorem read_notPure {o : Oper} {x : Operand} (h : readOp o.op = some x) : pureOp P o.op = false := by
  obtain ⟨dst, op, type, pos, after, guard⟩ := o
  cases op <;> simp only [readOp] at h <;> first | (cases h; done) | rfl

/-- What is made by an operation that is carried out lies ahead of the first writing operation that is not. -/
theorem DInv.made_lt (I : DInv P n ops S G v m0 w0 d0 L k m a w) (tr : Tr P mode ops 0 S G v) (hd : DOk P n mode ops) {j : Nat} {oj : Oper} (hj : L.getD j false = true) (hoj : ops[j]? = some oj)
    (hw : wantedA ops (S j) oj = true) (hmade : (G j).size < (G (j + 1)).size) : j < k := by
  have hlt : j < ops.size := by
    rcases Nat.lt_or_ge j ops.size with h | h
    · exact h
    · rw [Array.getElem?_eq_none h] at hoj; cases hoj
  rcases I.kfirst with rfl | ⟨hk, hkL⟩
  · exact hlt
  · rcases Nat.lt_trichotomy j k with h | h | h
    · exact h
    · subst h; rw [hj] at hkL; cases hkL
    · exfalso
      obtain ⟨_, hcase⟩ := tr.step j oj (Nat.zero_le _) hoj
      rcases hcase with ⟨_, hop, _⟩ | ⟨hw', _⟩
      · have hp : pureOp P oj.op = false := by
          cases hp : pureOp P oj.op with
          | false => rfl
          | true => have := (aOp_pure hp hop).1; rw [this] at hmade; omega
        have hr : readOp oj.op = none := by
          cases hr : readOp oj.op with
          | none => rfl
          | some x => have := (aOp_read hr hop).1; rw [this] at hmade; omega
        have hc := weakB_cmp (hk.weak tr hd).1 hoj (by omega) hp hr
        unfold cmpB at hc
        rw [if_neg (by omega)] at hc
        have := before_in I.closed hc (fun o' ho' => I.closed j o' hj ho')
        rw [hkL] at this; cases this
      · rw [hw] at hw'; cases hw'

theorem DInv.dom_lt (I : DInv P n ops S G v m0 w0 d0 L k m a w) (tr : Tr P mode ops 0 S G v) (hd : DOk P n mode ops) (hf : Free m0 (G 0) (G ops.size)) {id : Nat} {l : Loc} (hm : m id = some l) (hN : id < (G ops.size).size) : id < (G k).size := by
  rcases I.dom id l hm with h | ⟨j, oj, hj, hoj, hw, h1, h2⟩
  · have e := tr.ext_le hd.ok 0 k (Nat.zero_le _) I.kle
    rcases Nat.lt_or_ge id (G 0).size with h3 | h3
    · exact Nat.lt_of_lt_of_le h3 e.size
    · rw [hf id h3 hN] at h; cases h
  · have hjk := I.made_lt tr hd hj hoj hw (by omega)
    exact Nat.lt_of_lt_of_le h2 (tr.ext_le hd.ok (j + 1) k hjk I.kle).size

set_option maxHeartbeats 1000000 in
theorem DInv.stepAny (tr : Tr P mode ops 0 S G v) (hd : DOk P n mode ops) (hf : Free m0 (G 0) (G ops.size)) (I : DInv P n ops S G v m0 w0 d0 L k m a w) {i : Nat} (hi : i ∈ Region.ready .any ops L)
    {Q : Exit → Act → World → Prop} : wpOp P ops Q i (fun a' w' => ∃ k' m', DInv P n ops S G v m0 w0 d0 (L.setIfInBounds i true) k' m' a' w') a w := by
  obtain ⟨o, ho, h1, h2⟩ := ready_iff I.lsize hi
  have hlt : i < ops.size := by
    rcases Nat.lt_or_ge i ops.size with h | h
    · exact h
    · rw [Array.getElem?_eq_none h] at ho; cases ho
  have hL : i < L.size := by rw [I.lsize]; exact hlt
  have sg : ∀ j, (L.setIfInBounds i true).getD j false = if j = i then true else L.getD j false := fun j => set_getD hL
  obtain ⟨ok1, ok2, ok3⟩ := opsOk_get hd.ok ho
  obtain ⟨σ, ht, s1, s2⟩ := I.slots hd
  have hopd := I.operands tr hd ho h1 h2 s1 s2
  have hev : ∀ x ∈ o.op.operands, evO σ x = evO (S i) x := fun x hx => by
    cases x with
    | tmp t => exact hopd t (opd_looks hx)
    | _ => rfl
  have hwr : Region.wanted o (yielded ops a.tmps) = wantedA ops σ o := wanted_rel (m := m) fun t hg => by
    rw [hg] at ok3
    have := of_decide_eq_true ok3
    exact ⟨by rw [ht.size]; exact this, ht.val t this⟩
  have hws : wantedA ops σ o = wantedA ops (S i) o := by
    unfold wantedA
    cases hg : o.guard with
    | none => rfl
    | some gw =>
      obtain ⟨j, want⟩ := gw
      simp only
      cases htt : (ops[j]?).bind (·.dst) with
      | none => rfl
      | some t => simp only; rw [hopd t (guard_looks (by unfold guardTmp; rw [hg]; exact htt))]
  obtain ⟨hS, hcase⟩ := tr.step i o (Nat.zero_le _) ho
  have wLt : ∀ j, j < k → Writes ops S G j → (L.setIfInBounds i true).getD j false = true := fun j hj hw => by rw [sg]; split <;> simp_all [I.kdone j hj hw]
  -- the first writing operation that isn't carried out stays the first, if i is none
  have kSame : ¬ Writes ops S G i → k = ops.size ∨ (Writes ops S G k ∧ (L.setIfInBounds i true).getD k false = false) := fun hnw => by
    rcases I.kfirst with h | ⟨h3, h4⟩
    · exact .inl h
    · refine .inr ⟨h3, ?_⟩
      rw [sg, if_neg (fun e : k = i => hnw (by rw [← e]; exact h3))]; exact h4
  unfold wpOp
  simp only [ho]
  rw [hwr, hws]
  rcases hcase with ⟨hw, hop, _⟩ | ⟨hw, hv, hG⟩
  · rw [if_pos hw]
    refine .inl ?_
    -- silent operations
    have silent : aOp P σ (G k) o (fun x y => x = v i ∧ y = G k) → G (i + 1) = G i → o.wp P a w (fun a' w' => ∃ k' m', DInv P n ops S G v m0 w0 d0 (L.setIfInBounds i true) k' m' a' w') Q := by
      intro hak hGi
      have hnw : ¬ Writes ops S G i := fun ⟨o', ho', _, hk'⟩ => hk' (by rw [hGi]; exact AKeep.refl _)
      obtain ⟨_, _, hsound⟩ := aOp_fixed ok1 hak
      refine Oper.wp_mono (fun a' w' => ?_) (hsound m w a I.rel Free.none ht _)
      rintro ⟨v', m', rfl, hvr, st⟩
      refine ⟨k, m', I.advance tr hd hf ho h1 h2 I.kle st hvr I.kle wLt (kSame hnw) st.rel (fun id l hm => ?_)⟩
      rcases st.new id l hm with h | ⟨h3, h4, _⟩
      · exact .inl h
      · omega
    by_cases hp : pureOp P o.op = true
    · obtain ⟨hGi, hany⟩ := aOp_pure hp hop
      exact silent (by rw [aOp_congr hev]; exact hany (G k)) hGi
    · have hp' : pureOp P o.op = false := by simpa using hp
      cases hr : readOp o.op with
      | some x =>
        obtain ⟨hGi, hany⟩ := aOp_read hr hop
        refine silent ?_ hGi
        rw [aOp_congr hev]
        refine hany (G k) (fun id hid => ?_)
        -- the object that is read reads now as in the text's order
        have hxo := readOp_opd hr
        have hxt : tmpsOk n x = true := list_any ok1 x (by simpa using hxo)
        have hid' : objOf (evO σ x) = some id := by rw [hev x hxo]; exact hid
        obtain ⟨l, hml⟩ := objOf_dom ht hxt hid'
        have hlive := aOp_read_live hr hop hid
        have hlti : id < (G i).size := by
          rcases Nat.lt_or_ge id (G i).size with h | h
          · exact h
          · exact absurd (get_ge _ _ h) hlive
        have hltN : id < (G ops.size).size := Nat.lt_of_lt_of_le hlti (tr.ext_le hd.ok i ops.size (by omega) (Nat.le_refl _)).size
        have hltk := I.dom_lt tr hd hf hml hltN
        have hfin : objOf (evO (S ops.size) x) = some id := by
          cases x with
          | tmp t =>
            have htl : t ∈ o.looksAt ops := opd_looks hxo
            -- nothing behind i writes the slot
            have e : S ops.size t = S i t := by
              have go : ∀ j, i ≤ j → j ≤ ops.size → S j t = S i t := by
                intro j hij
                induction hij with
                | refl => intro _; rfl
                | step h ih =>
                  rename_i j
                  intro hj
                  have hjl : j < ops.size := by omega
                  obtain ⟨oj, hoj⟩ : ∃ oj, ops[j]? = some oj := ⟨_, Array.getElem?_eq_getElem hjl⟩
                  obtain ⟨hSj, _⟩ := tr.step j oj (Nat.zero_le _) hoj
                  rw [hSj]
                  have hnd : oj.dst ≠ some t := hd.reads i j o oj t ho hoj hr h
                  rw [← ih (by omega)]
                  cases hdst : oj.dst with
                  | none => rfl
                  | some d =>
                    simp only [Slots.put]
                    rw [if_neg (fun e' => hnd (by rw [hdst, e']))]
              exact go ops.size (by omega) (Nat.le_refl _)
            simp only [evO] at hid ⊢
            rw [e]; exact hid
          | const c => exact hid
          | global g => exact hid
          | func f => exact hid
        have same : ∀ j, j < ops.size → id < (G j).size → (Writes ops S G j → j ≠ i ∧ cmpB (befMasks ops.toList []) j i = false) → (G (j + 1)).get id = (G j).get id := by
          intro j hj hlj hw'
          obtain ⟨oj, hoj⟩ : ∃ oj, ops[j]? = some oj := ⟨_, Array.getElem?_eq_getElem hj⟩
          by_cases hW : Writes ops S G j
          · obtain ⟨hne, hc⟩ := hw' hW
            exact (hW.weak tr hd).2 i o x ho hne hr hc id hfin
          · exact (tr.keep hoj hW).get id hlj
        rcases Nat.le_total i k with hik | hki
        · have go : ∀ j, i ≤ j → j ≤ k → (G j).get id = (G i).get id := by
            intro j hij
            induction hij with
            | refl => intro _; rfl
            | step h ih =>
              rename_i j
              intro hj
              rw [same j (by have := I.kle; omega) (Nat.lt_of_lt_of_le hlti (tr.ext_le hd.ok i j h (by have := I.kle; omega)).size) (fun hW => ?_), ih (by omega)]
              have hne : j ≠ i := by
                intro e; subst e
                obtain ⟨_, _, _, hk'⟩ := hW
                exact hk' (by rw [hGi]; exact AKeep.refl _)
              refine ⟨hne, ?_⟩
              cases hc : cmpB (befMasks ops.toList []) j i with
              | false => rfl
              | true =>
                rw [cmpB_symm _ _ _ hne] at hc
                have := (I.cmp ho h1 h2 (Ne.symm hne) hc).2 (Nat.lt_of_le_of_ne h (Ne.symm hne))
                rw [I.kdone j (by omega) hW] at this; cases this
          exact go k hik (Nat.le_refl _)
        · have go : ∀ j, k ≤ j → j ≤ i → (G j).get id = (G k).get id := by
            intro j hkj
            induction hkj with
            | refl => intro _; rfl
            | step h ih =>
              rename_i j
              intro hj
              rw [same j (by omega) (Nat.lt_of_lt_of_le hltk (tr.ext_le hd.ok k j h (by omega)).size) (fun hW => ?_), ih (by omega)]
              refine ⟨by omega, ?_⟩
              cases hc : cmpB (befMasks ops.toList []) j i with
              | false => rfl
              | true =>
                exfalso
                rw [cmpB_symm _ _ _ (by omega)] at hc
                have hLj := (I.cmp ho h1 h2 (by omega) hc).1 (by omega)
                rcases I.kfirst with e | ⟨hWk, hLk⟩
                · omega
                · by_cases e : j = k
                  · subst e; rw [hLk] at hLj; cases hLj
                  · obtain ⟨oj, hoj, hwj, hkj'⟩ := hW
                    obtain ⟨_, hcj⟩ := tr.step j oj (Nat.zero_le _) hoj
                    rcases hcj with ⟨_, hopj, _⟩ | ⟨hwj', _⟩
                    · have hpj : pureOp P oj.op = false := by
                        cases hp2 : pureOp P oj.op with
                        | false => rfl
                        | true => exact absurd (by rw [(aOp_pure hp2 hopj).1]; exact AKeep.refl _) hkj'
                      have hrj : readOp oj.op = none := by
                        cases hr2 : readOp oj.op with
                        | none => rfl
                        | some y => exact absurd (by rw [(aOp_read hr2 hopj).1]; exact AKeep.refl _) hkj'
                      have hc2 := weakB_cmp (hWk.weak tr hd).1 hoj (Ne.symm e) hpj hrj
                      unfold cmpB at hc2
                      rw [if_neg (Nat.not_lt.2 h)] at hc2
                      have := before_in I.closed hc2 (fun o' ho' => I.closed j o' hLj ho')
                      rw [hLk] at this; cases this
                    · rw [hwj] at hwj'; cases hwj'
          exact (go i hki (Nat.le_refl _)).symm
      | none =>
        have hak : aOp P σ (G i) o (fun x y => x = v i ∧ y = G (i + 1)) := by rw [aOp_congr hev]; exact hop
        obtain ⟨_, _, hsound⟩ := aOp_fixed ok1 hak
        have ext1 := tr.ext_le hd.ok (i + 1) ops.size (by omega) (Nat.le_refl _)
        have ext0 := tr.ext_le hd.ok 0 i (Nat.zero_le _) (by omega)
        have hfree : Free m (G i) (G (i + 1)) := by
          intro id h3 h4
          cases hm : m id with
          | none => rfl
          | some l =>
            exfalso
            rcases I.dom id l hm with h | ⟨j, oj, hj, hoj, hwj, h5, h6⟩
            · rw [hf id (Nat.le_trans ext0.size h3) (Nat.lt_of_lt_of_le h4 ext1.size)] at h; cases h
            · have hne : j ≠ i := by intro e; subst e; rw [h1] at hj; cases hj
              rcases Nat.lt_or_gt_of_ne hne with hlt' | hgt
              · have := (tr.ext_le hd.ok (j + 1) i hlt' (by omega)).size; omega
              · have hjl : j < ops.size := by
                  rcases Nat.lt_or_ge j ops.size with h | h
                  · exact h
                  · rw [Array.getElem?_eq_none h] at hoj; cases hoj
                have := (tr.ext_le hd.ok (i + 1) j hgt (by omega)).size; omega
        have cmpW : ∀ j, Writes ops S G j → j ≠ i → cmpB (befMasks ops.toList []) i j = true := fun j hW hne => by
          rw [cmpB_symm _ _ _ (Ne.symm hne)]
          exact weakB_cmp (hW.weak tr hd).1 ho hne hp' hr
        by_cases hWi : Writes ops S G i
        · -- it is the first writing operation
          have hik : i = k := by
            rcases Nat.lt_trichotomy i k with h | h | h
            · rw [I.kdone i h hWi] at h1; cases h1
            · exact h
            · rcases I.kfirst with e | ⟨hWk, hLk⟩
              · omega
              · have := (I.cmp ho h1 h2 (by omega) (cmpW k hWk (by omega))).1 h
                rw [hLk] at this; cases this
          subst hik
          obtain ⟨k', hk1, hk2, hk3⟩ := exists_first (Writes ops S G) (L.setIfInBounds i true) ops.size
          have hkk : i + 1 ≤ k' := by
            rcases Nat.lt_trichotomy k' i with h | h | h
            · rcases hk3 with e | ⟨hW', hL'⟩
              · omega
              · rw [wLt k' h hW'] at hL'; cases hL'
            · rcases hk3 with e | ⟨hW', hL'⟩
              · omega
              · rw [sg, if_pos h] at hL'; cases hL'
            · omega
          have noW : ∀ j, i + 1 ≤ j → j < k' → ¬ Writes ops S G j := fun j hj1 hj2 hW => by
            have := hk2 j hj2 hW
            rw [sg, if_neg (by omega)] at this
            have h3 := (I.cmp ho h1 h2 (by omega) (cmpW j hW (by omega))).2 (by omega)
            rw [h3] at this; cases this
          have keep := tr.stretch (i + 1) k' hkk hk1 noW
          refine Oper.wp_mono (fun a' w' => ?_) (hsound m w a I.rel hfree ht _)
          rintro ⟨v', m', rfl, hvr, st⟩
          refine ⟨k', m', I.advance tr hd hf ho h1 h2 (by omega) st hvr hk1 hk2 hk3 ?_ (fun id l hm => ?_)⟩
          · refine st.rel.back (fun id l hm => ?_)
            by_cases hlt2 : id < (G (i + 1)).size
            · exact .inl (keep.get id hlt2)
            · right
              rcases Nat.lt_or_ge id (G k').size with h3 | h3
              · exfalso
                have hN : id < (G ops.size).size := Nat.lt_of_lt_of_le h3 (tr.ext_le hd.ok k' ops.size hk1 (Nat.le_refl _)).size
                rcases st.new id l hm with h | ⟨_, h, _⟩
                · have := I.dom_lt tr hd hf h hN
                  have := (tr.ext hd.ok i hlt).size
                  omega
                · exact hlt2 h
              · exact get_ge _ _ h3
          · rcases st.new id l hm with h | ⟨h3, h4, _⟩
            · exact .inl h
            · exact .inr ⟨hw, h3, h4⟩
        · -- it makes at most
          have keepi := tr.keep ho hWi
          have hik : i < k := by
            rcases I.kfirst with e | ⟨hWk, hLk⟩
            · omega
            · rcases Nat.lt_trichotomy i k with h | h | h
              · exact h
              · subst h; exact absurd hWk hWi
              · have := (I.cmp ho h1 h2 (by omega) (cmpW k hWk (by omega))).1 h
                rw [hLk] at this; cases this
          have noW : ∀ j, i ≤ j → j < k → ¬ Writes ops S G j := fun j hj1 hj2 hW => by
            have hne : j ≠ i := fun e => hWi (e ▸ hW)
            have h3 := (I.cmp ho h1 h2 (Ne.symm hne) (cmpW j hW hne)).2 (by omega)
            rw [I.kdone j hj2 hW] at h3; cases h3
          have kA := tr.stretch i k (by omega) I.kle noW
          have kB := tr.stretch (i + 1) k (by omega) I.kle (fun j h3 h4 => noW j (by omega) h4)
          have reli : Rel m (G i) w := I.rel.back (fun id l hm => by
            by_cases hlt2 : id < (G i).size
            · exact .inl (kA.get id hlt2).symm
            · exact .inr (get_ge _ _ (by omega)))
          refine Oper.wp_mono (fun a' w' => ?_) (hsound m w a reli hfree ht _)
          rintro ⟨v', m', rfl, hvr, st⟩
          refine ⟨k, m', I.advance tr hd hf ho h1 h2 (by omega) st hvr I.kle wLt (kSame hWi) (Rel.forth I.rel st keepi kA.get kB.get) (fun id l hm => ?_)⟩
          rcases st.new id l hm with h | ⟨h3, h4, _⟩
          · exact .inl h
          · exact .inr ⟨hw, h3, h4⟩
  · rw [if_neg (by rw [hw]; simp)]
    have hnw : ¬ Writes ops S G i := fun ⟨o', ho', hw', _⟩ => by rw [ho] at ho'; cases ho'; rw [hw] at hw'; cases hw'
    refine ⟨k, m, I.advance tr hd hf ho h1 h2 I.kle (Step.refl I.rel) (by rw [hv]; exact VRel.undef m) I.kle wLt (kSame hnw) I.rel (fun id l hm => .inl hm)⟩

end Go.Ah

/- Code over the abstract heap: aCode, sound; a function's contract out of its body. -/
namespace Go.Ah
variable {P : Program} {n mode : Nat} {ops : Array Oper} {S : Nat → Slots} {G : Nat → AHeap} {v : Nat → Value}

theorem DInv.finish {m0 : Map} {w0 : World} {d0 : List Deferred} {L : Array Bool} {k : Nat} {m : Map} {a : Act} {w : World} (tr : Tr P mode ops 0 S G v) (hd : DOk P n mode ops)
    (I : DInv P n ops S G v m0 w0 d0 L k m a w) (hr : Region.ready .any ops L = []) : RPost m0 n (G 0) w0 d0 (S ops.size) (G ops.size) .normal a w := by
  have all : ∀ N i, i < N → i < ops.size → L.getD i false = true := by
    intro N
    induction N with
    | zero => intro i h; omega
    | succ N ih =>
      intro i hi hlt
      cases hL : L.getD i false with
      | true => rfl
      | false =>
        exfalso
        obtain ⟨o, ho⟩ : ∃ o, ops[i]? = some o := ⟨_, Array.getElem?_eq_getElem hlt⟩
        have := ready_mk I.lsize ho hL (fun e he hb => by
          have := hd.edges i o ho e he hb
          exact ih e.on (by omega) (by omega))
        rw [hr] at this; cases this
  have hk : k = ops.size := by
    rcases I.kfirst with h | ⟨hW, hL⟩
    · exact h
    · rw [all (k + 1) k (by omega) hW.lt] at hL; cases hL
  subst hk
  refine ⟨I.defers, m, ⟨I.tsize, fun t ht => ?_⟩, ⟨I.rel, I.ext, fun id x h => ?_, I.kept, I.size, I.os, I.tape, I.output, tr.ext_le hd.ok 0 ops.size (Nat.zero_le _) (Nat.le_refl _)⟩⟩
  · rcases tr.slot hd t ops.size (Nat.le_refl _) with ⟨j, o, h1, h2, h3, h4⟩ | ⟨h1, h2⟩
    · rw [h4]; exact I.done j o t (all (j + 1) j (by omega) h1) h2 h3
    · rw [h2]
      refine I.rest t ht fun i o hi ho => h1 i o ?_ ho
      rcases Nat.lt_or_ge i ops.size with h | h
      · exact h
      · rw [Array.getElem?_eq_none h] at ho; cases ho
  · rcases I.new id x h with h1 | h1
    · exact .inl h1
    · rcases I.dom id x h with h2 | ⟨j, o, hj, hoj, hw, h3, h4⟩
      · exact .inl h2
      · have hjl : j < ops.size := by
          rcases Nat.lt_or_ge j ops.size with h | h
          · exact h
          · rw [Array.getElem?_eq_none h] at hoj; cases hoj
        have e1 := tr.ext_le hd.ok 0 j (Nat.zero_le _) (by omega)
        have e2 := tr.ext_le hd.ok (j + 1) ops.size hjl (Nat.le_refl _)
        exact .inr ⟨Nat.le_trans e1.size h3, Nat.lt_of_lt_of_le h4 e2.size, h1⟩

theorem draw_any {m0 : Map} {w0 : World} {d0 : List Deferred} (tr : Tr P mode ops 0 S G v) (hd : DOk P n mode ops) (hf : Free m0 (G 0) (G ops.size)) :
    ∀ (fuel : Nat) (L : Array Bool) (k : Nat) (m : Map) (a : Act) (w : World), (∃ U : List Nat, U.length = fuel ∧ ∀ i, i < ops.size → L.getD i false = false → i ∈ U) → DInv P n ops S G v m0 w0 d0 L k m a w →
      wpAny P .any ops (RPost m0 n (G 0) w0 d0 (S ops.size) (G ops.size)) fuel L a w
  | 0, L, k, m, a, w, hU, I => by
    obtain ⟨U, hl, hU⟩ := hU
    have : U = [] := List.length_eq_zero_iff.1 hl
    subst this
    have hr : Region.ready .any ops L = [] := by
      apply List.eq_nil_iff_forall_not_mem.2
      intro i hi
      obtain ⟨o, ho, h1, _⟩ := ready_iff I.lsize hi
      have hlt : i < ops.size := by
        rcases Nat.lt_or_ge i ops.size with h | h
        · exact h
        · rw [Array.getElem?_eq_none h] at ho; cases ho
      exact absurd (hU i hlt h1) (by simp)
    exact ⟨hr, I.finish tr hd hr⟩
  | fuel + 1, L, k, m, a, w, hU, I => by
    refine ⟨fun hr => I.finish tr hd hr, fun i hi => ?_⟩
    refine wpOp_mono (fun a' w' h => ?_) (I.stepAny tr hd hf hi)
    obtain ⟨k', m', I'⟩ := h
    refine draw_any tr hd hf fuel _ k' m' a' w' ?_ I'
    obtain ⟨U, hl, hU⟩ := hU
    obtain ⟨o, ho, h1, _⟩ := ready_iff I.lsize hi
    have hlt : i < ops.size := by
      rcases Nat.lt_or_ge i ops.size with h | h
      · exact h
      · rw [Array.getElem?_eq_none h] at ho; cases ho
    have hiU := hU i hlt h1
    refine ⟨U.erase i, by rw [List.length_erase_of_mem hiU, hl]; rfl, fun j hj hjL => ?_⟩
    rw [set_getD (by rw [I.lsize]; exact hlt)] at hjL
    split at hjL
    · cases hjL
    · rename_i hne
      exact (List.mem_erase_of_ne hne).2 (hU j hj hjL)

theorem draw_sound {m0 : Map} {w : World} {a : Act} (tr : Tr P mode ops 0 S G v) (hd : DOk P n mode ops) (hm : P.follows .mixedOrders = true) (hf : Free m0 (G 0) (G ops.size)) (id : Nat)
    (hr : Rel m0 (G 0) w) (ht : TRel m0 n (S 0) a.tmps) :
    (Code.region id ops true).wp P (RPost m0 n (G 0) w a.defers (S ops.size) (G ops.size)) a w := by
  refine wp_region_any hm (draw_any tr hd hf ops.size _ (Classical.choose (exists_first (Writes ops S G) (Array.replicate ops.size false) ops.size)) m0 a _ ⟨List.range ops.size, by simp, fun i hi _ => by simpa using hi⟩ ?_)
  obtain ⟨h1, h2, h3⟩ := Classical.choose_spec (exists_first (Writes ops S G) (Array.replicate ops.size false) ops.size)
  have none_ : ∀ i, (Array.replicate ops.size false).getD i false = false := fun i => by
    simp only [Array.getD_eq_getD_getElem?, Array.getElem?_replicate]
    split <;> rfl
  have noW : ∀ j, j < Classical.choose (exists_first (Writes ops S G) (Array.replicate ops.size false) ops.size) → ¬ Writes ops S G j := fun j hj hW => by
    have := h2 j hj hW
    rw [none_] at this; cases this
  have keep := tr.stretch 0 _ (Nat.zero_le _) h1 (fun j _ hj => noW j hj)
  refine ⟨by simp, (fun i o hi => by simp only [none_] at hi; cases hi), ht.size, (fun i o t hi => by rw [none_] at hi; cases hi), fun t htn _ => ht.val t htn, rfl, h1, fun i hi hW => absurd hW (noW i hi), h3, ?_,
    fun id l h => .inl h, fun id x h => h, fun id x h => .inl h, fun b hb _ => rfl, Nat.le_refl _, rfl, rfl, rfl⟩
  refine (Rel.drew hr rfl : Rel m0 (G 0) { w with drawn := w.drawn + 1 }).back (fun id l hm => ?_)
  rcases Nat.lt_or_ge id (G 0).size with h | h
  · exact .inl (keep.get id h)
  · right
    rcases Nat.lt_or_ge id (G (Classical.choose (exists_first (Writes ops S G) (Array.replicate ops.size false) ops.size))).size with h4 | h4
    · rw [hf id h (Nat.lt_of_lt_of_le h4 (tr.ext_le hd.ok _ ops.size h1 (Nat.le_refl _)).size)] at hm; cases hm
    · exact get_ge _ _ h4

end Go.Ah

/- Code over the abstract heap: aCode, sound; a function's contract out of its body. -/
namespace Go.Ah
variable {P : Program}

def modeOf (fl : List Nat) (id : Nat) (draw : Bool) : Nat := if draw = true then (if fl.contains id = true then 2 else 1) else 0

def aCode (P : Program) (fl : List Nat) : Code → (Exit → Slots → AHeap → Prop) → Slots → AHeap → Prop
  | .skip, Q, σ, H => Q .normal σ H
  | .label _, Q, σ, H => Q .normal σ H
  | .region id ops draw, Q, σ, H => aOpsL P (modeOf fl id draw) ops (fun σ H => Q .normal σ H) ops.toList 0 [] σ H
  | .seq a b, Q, σ, H => aCode P fl a (fun e σ H => match e with | .normal => aCode P fl b Q σ H | e => Q e σ H) σ H
  | .cond c x y, Q, σ, H => match evO σ c with
    | .bool t => if t = true then aCode P fl x Q σ H else aCode P fl y Q σ H
    | _ => False
  | .block id c, Q, σ, H => aCode P fl c (fun e σ H => match e with | .exit id' => if id' = id then Q .normal σ H else Q (.exit id') σ H | e => Q e σ H) σ H
  | .loop c, Q, σ, H => ∀ R : Slots → AHeap → Prop, (∀ σ H, aCode P fl c (fun e σ H => match e with | .normal => R σ H | e => Q e σ H) σ H → R σ H) → R σ H
  | .exit id, Q, σ, H => Q (.exit id) σ H
  | .ret, Q, σ, H => Q .ret σ H
  | _, _, _, _ => False

def codeOk (P : Program) (n : Nat) (fl : List Nat) : Code → Bool
  | .region id ops draw => if draw then drawOk P n (modeOf fl id true) ops else opsOk n ops
  | .seq a b => codeOk P n fl a && codeOk P n fl b
  | .cond c x y => tmpsOk n c && codeOk P n fl x && codeOk P n fl y
  | .block _ c => codeOk P n fl c
  | .loop c => codeOk P n fl c
  | _ => true

def CPost (e : Exit) (m : Map) (n : Nat) (H : AHeap) (w : World) (d0 : List Deferred) (σ' : Slots) (H' : AHeap) : Exit → Act → World → Prop :=
  fun e' a' w' => e' = e ∧ a'.defers = d0 ∧ ∃ m', TRel m' n σ' a'.tmps ∧ Step m H w m' H' w'

/-- What is proved of a piece of code. -/
def Sound (P : Program) (n : Nat) (c : Code) (Q : Exit → Slots → AHeap → Prop) (σ : Slots) (H : AHeap) : Prop :=
  ∃ e σ' H', Q e σ' H' ∧ AExt H H' ∧ ∀ m w (a : Act), Rel m H w → Free m H H' → TRel m n σ a.tmps → c.wp P (CPost e m n H w a.defers σ' H') a w

theorem region_sound {n : Nat} {fl : List Nat} {id : Nat} {ops : Array Oper} {draw : Bool} {Q : Exit → Slots → AHeap → Prop} {σ : Slots} {H : AHeap} (hm : P.follows .mixedOrders = true)
    (hok : codeOk P n fl (.region id ops draw) = true) (h : aCode P fl (.region id ops draw) Q σ H) : Sound P n (.region id ops draw) Q σ H := by
  simp only [aCode] at h
  obtain ⟨S, G, v, rfl, rfl, tr, _, hK⟩ := trace_of ops.toList 0 [] σ H (by simp) (by simp) h
  cases draw with
  | true =>
    have hd : DOk P n (modeOf fl id true) ops := drawOk_ok (by simpa [codeOk] using hok)
    refine ⟨.normal, S ops.size, G ops.size, hK, tr.ext_le hd.ok 0 _ (Nat.zero_le _) (Nat.le_refl _), fun m w a hr hf ht => ?_⟩
    refine wp_mono (draw_sound tr hd hm hf id hr ht) (fun e a' w' he => ?_)
    cases e <;> first | exact he.elim | exact ⟨rfl, he.1, he.2⟩
  | false =>
    have hd : opsOk n ops = true := by simpa [codeOk] using hok
    refine ⟨.normal, S ops.size, G ops.size, hK, tr.ext_le hd 0 _ (Nat.zero_le _) (Nat.le_refl _), fun m w a hr hf ht => ?_⟩
    refine wp_mono (wp_region (id := id) (by
      rw [List.range_eq_range']
      exact seq_sound tr hd hf a.defers ops.size 0 (by omega) m a w rfl ht (Step.refl hr))) (fun e a' w' he => ?_)
    cases e <;> first | exact he.elim | exact ⟨rfl, he.1, he.2⟩

theorem Sound.seq {n : Nat} {x y : Code} {Q : Exit → Slots → AHeap → Prop} {σ : Slots} {H : AHeap}
    (h : Sound P n x (fun e σ H => match e with | .normal => Sound P n y Q σ H | e => Q e σ H) σ H) : Sound P n (.seq x y) Q σ H := by
  obtain ⟨e, σ1, H1, hq, e1, h1⟩ := h
  cases e with
  | normal =>
    obtain ⟨e2, σ2, H2, hq2, ext2, h2⟩ := hq
    refine ⟨e2, σ2, H2, hq2, e1.trans ext2, fun m w a hr hf ht => wp_seq (wp_mono (h1 m w a hr (hf.left ext2.size) ht) fun e a' w' he => ?_)⟩
    obtain ⟨rfl, hd, m', ht', hs⟩ := he
    refine wp_mono (h2 m' w' a' hs.rel (hf.right hs) ht') fun e a2 w2 he2 => ?_
    obtain ⟨rfl, hd2, m2, ht2, hs2⟩ := he2
    exact ⟨rfl, hd2.trans hd, m2, ht2, Step.trans hf hs hs2⟩
  | _ =>
    refine ⟨_, σ1, H1, hq, e1, fun m w a hr hf ht => wp_seq (wp_mono (h1 m w a hr hf ht) fun e a' w' he => ?_)⟩
    obtain ⟨rfl, r⟩ := he
    exact ⟨rfl, r⟩

theorem Sound.mono {n : Nat} {c : Code} {Q Q' : Exit → Slots → AHeap → Prop} {σ : Slots} {H : AHeap} (h : Sound P n c Q σ H) (hq : ∀ e σ H, Q e σ H → Q' e σ H) : Sound P n c Q' σ H := by
  obtain ⟨e, σ1, H1, q, r⟩ := h
  exact ⟨e, σ1, H1, hq _ _ _ q, r⟩

theorem rounds_mono {c : Code} {Q Q' : Exit → Act → World → Prop} (hq : ∀ e a w, Q e a w → Q' e a w) : ∀ k a w, c.rounds P Q k a w → c.rounds P Q' k a w
  | 0, _, _, h => h.elim
  | k + 1, a, w, h => by
    rw [rounds_succ] at h ⊢
    refine wp_mono h fun e a w he => ?_
    cases e <;> first | exact hq _ _ _ he | exact rounds_mono hq k _ _ he

theorem aCode_sound {n : Nat} {fl : List Nat} (hm : P.follows .mixedOrders = true) : ∀ (c : Code) (Q : Exit → Slots → AHeap → Prop) (σ : Slots) (H : AHeap), codeOk P n fl c = true → aCode P fl c Q σ H → Sound P n c Q σ H := by
  intro c
  induction c with
  | skip => exact fun Q σ H _ h => ⟨_, σ, H, h, AExt.refl H, fun m w a hr _ ht => wp_skip ⟨rfl, rfl, m, ht, Step.refl hr⟩⟩
  | region id ops draw => exact fun Q σ H hok h => region_sound hm hok h
  | seq x y ihx ihy =>
    intro Q σ H hok h
    simp only [codeOk, Bool.and_eq_true] at hok
    simp only [aCode] at h
    refine Sound.seq ((ihx _ σ H hok.1 h).mono fun e σ H hq => ?_)
    cases e <;> first | exact hq | exact ihy Q σ H hok.2 hq
  | cond c x y ihx ihy =>
    intro Q σ H hok h
    simp only [codeOk, Bool.and_eq_true] at hok
    simp only [aCode] at h
    split at h
    · rename_i t hc
      split at h
      · rename_i ht
        subst ht
        obtain ⟨e, σ', H', hq, ext, hs⟩ := ihx Q σ H hok.1.2 h
        refine ⟨e, σ', H', hq, ext, fun m w a hr hf htr => ?_⟩
        have := EvRel htr hok.1.1
        rw [hc] at this
        exact wp_cond_true this.bool_inv (hs m w a hr hf htr)
      · rename_i ht
        have ht' : t = false := by simpa using ht
        subst ht'
        obtain ⟨e, σ', H', hq, ext, hs⟩ := ihy Q σ H hok.2 h
        refine ⟨e, σ', H', hq, ext, fun m w a hr hf htr => ?_⟩
        have := EvRel htr hok.1.1
        rw [hc] at this
        exact wp_cond_false this.bool_inv (hs m w a hr hf htr)
    · exact h.elim
  | block id c ih =>
    intro Q σ H hok h
    simp only [codeOk] at hok
    simp only [aCode] at h
    obtain ⟨e, σ', H', hq, ext, hs⟩ := ih _ σ H hok h
    cases e with
    | exit id' =>
      by_cases hid : id' = id
      · simp only [hid, if_true] at hq
        refine ⟨.normal, σ', H', hq, ext, fun m w a hr hf ht => wp_block (wp_mono (hs m w a hr hf ht) fun e a' w' he => ?_)⟩
        obtain ⟨rfl, r⟩ := he
        simp only [Exit.inBlock, hid, if_true]
        exact ⟨rfl, r⟩
      · simp only [hid, if_false] at hq
        refine ⟨.exit id', σ', H', hq, ext, fun m w a hr hf ht => wp_block (wp_mono (hs m w a hr hf ht) fun e a' w' he => ?_)⟩
        obtain ⟨rfl, r⟩ := he
        simp only [Exit.inBlock, hid, if_false]
        exact ⟨rfl, r⟩
    | _ =>
      refine ⟨_, σ', H', hq, ext, fun m w a hr hf ht => wp_block (wp_mono (hs m w a hr hf ht) fun e a' w' he => ?_)⟩
      obtain ⟨rfl, r⟩ := he
      exact ⟨rfl, r⟩
  | loop c ih =>
    intro Q σ H hok h
    simp only [codeOk] at hok
    simp only [aCode] at h
    have hk : ∃ k e σ' H', Q e σ' H' ∧ AExt H H' ∧ ∀ m w (a : Act), Rel m H w → Free m H H' → TRel m n σ a.tmps → c.rounds P (CPost e m n H w a.defers σ' H') k a w := by
      refine h (fun σ H => ∃ k e σ' H', Q e σ' H' ∧ AExt H H' ∧ ∀ m w (a : Act), Rel m H w → Free m H H' → TRel m n σ a.tmps → c.rounds P (CPost e m n H w a.defers σ' H') k a w) (fun σ H hb => ?_)
      obtain ⟨e, σ1, H1, hq, e1, h1⟩ := ih _ σ H hok hb
      cases e with
      | normal =>
        obtain ⟨k, e2, σ2, H2, hq2, ext2, h2⟩ := hq
        refine ⟨k + 1, e2, σ2, H2, hq2, e1.trans ext2, fun m w a hr hf ht => ?_⟩
        rw [rounds_succ]
        refine wp_mono (h1 m w a hr (hf.left ext2.size) ht) fun e a' w' he => ?_
        obtain ⟨rfl, hd, m', ht', hs⟩ := he
        have := h2 m' w' a' hs.rel (hf.right hs) ht'
        refine rounds_mono (fun e a2 w2 he2 => ?_) k a' w' this
        obtain ⟨rfl, hd2, m2, ht2, hs2⟩ := he2
        exact ⟨rfl, hd2.trans hd, m2, ht2, Step.trans hf hs hs2⟩
      | _ =>
        refine ⟨1, _, σ1, H1, hq, e1, fun m w a hr hf ht => ?_⟩
        rw [rounds_succ]
        refine wp_mono (h1 m w a hr hf ht) fun e a' w' he => ?_
        obtain ⟨rfl, r⟩ := he
        exact ⟨rfl, r⟩
    obtain ⟨k, e, σ', H', hq, ext, hs⟩ := hk
    exact ⟨e, σ', H', hq, ext, fun m w a hr hf ht => wp_loop_rounds k (hs m w a hr hf ht)⟩
  | exit id => exact fun Q σ H _ h => ⟨_, σ, H, h, AExt.refl H, fun m w a hr _ ht => wp_exit ⟨rfl, rfl, m, ht, Step.refl hr⟩⟩
  | ret => exact fun Q σ H _ h => ⟨_, σ, H, h, AExt.refl H, fun m w a hr _ ht => wp_ret ⟨rfl, rfl, m, ht, Step.refl hr⟩⟩
  | label l => exact fun Q σ H _ h => ⟨_, σ, H, h, AExt.refl H, fun m w a hr _ ht => wp_label ⟨rfl, rfl, m, ht, Step.refl hr⟩⟩
  | _ => exact fun Q σ H _ h => h.elim

end Go.Ah

/- A function's contract out of its body; how loops are told; the code as a stack. -/
namespace Go.Ah
variable {P : Program}

/-- What a function hands back. -/
def aRes (P : Program) (σ : Slots) (H : AHeap) : List ResultVar → (List Value → Prop) → Prop
  | [], K => K []
  | .tmp t :: r, K => aRes P σ H r fun vs => K (σ t :: vs)
  | .cell a t :: r, K => aLoad P H t (σ a) fun v => aRes P σ H r fun vs => K (v :: vs)

def packed : List Value → Value
  | [v] => v
  | vs => .tuple vs.toArray

def resOk (n : Nat) : List ResultVar → Bool
  | [] => true
  | .tmp t :: r => decide (t < n) && resOk n r
  | .cell a _ :: r => decide (a < n) && resOk n r

def resOf (tmps : Array Value) : ResultVar → Sem Value
  | .tmp t => pure (tmps.getD t undef)
  | .cell a t => do loadVar t (← asAddr (tmps.getD a undef))

theorem aRes_sound {n : Nat} {σ : Slots} {H : AHeap} : ∀ (rs : List ResultVar) (K : List Value → Prop), resOk n rs = true → aRes P σ H rs K → ∃ vs, K vs ∧ ∀ m w tmps, Rel m H w → TRel m n σ tmps →
    ∃ vs' : List Value, (rs.mapM (resOf tmps)).run P w = .ok vs' w ∧ VRelL m vs vs'
  | [], K, _, h => ⟨[], h, fun m w tmps hr ht => ⟨[], by simp, VRelL.nil m⟩⟩
  | .tmp t :: r, K, hok, h => by
    simp only [resOk, Bool.and_eq_true, decide_eq_true_eq] at hok
    simp only [aRes] at h
    obtain ⟨vs, hK, hs⟩ := aRes_sound r _ hok.2 h
    refine ⟨_, hK, fun m w tmps hr ht => ?_⟩
    obtain ⟨vs', h1, h2⟩ := hs m w tmps hr ht
    refine ⟨tmps.getD t undef :: vs', ?_, h2.cons (ht.val t hok.1)⟩
    rw [List.mapM_cons]
    simp only [Sem.run_bind, resOf, Sem.run_pure, Result.andThen_ok]
    rw [show (List.mapM (resOf tmps) r).run P w = .ok vs' w from h1]; rfl
  | .cell a t :: r, K, hok, h => by
    simp only [resOk, Bool.and_eq_true, decide_eq_true_eq] at hok
    simp only [aRes] at h
    obtain ⟨v, hv, hl⟩ := aLoad_sound h
    obtain ⟨vs, hK, hs⟩ := aRes_sound r _ hok.2 hv
    refine ⟨_, hK, fun m w tmps hr ht => ?_⟩
    obtain ⟨vs', h1, h2⟩ := hs m w tmps hr ht
    have hrel := ht.val a hok.1
    obtain ⟨v', h3, h4⟩ := hl m w _ hr hrel
    refine ⟨v' :: vs', ?_, h2.cons h4⟩
    have h5 : (do loadVar t (← asAddr (tmps.getD a undef)) : Sem Value).run P w = .ok v' w := by
      unfold aLoad at h
      split at h
      · rename_i id off e
        rw [e] at hrel
        obtain ⟨l, hm, e'⟩ := hrel.ptr_inv
        rw [e'] at h3 ⊢
        exact h3
      · exact h.elim
    rw [List.mapM_cons, Sem.run_bind]
    rw [show (resOf tmps (.cell a t)).run P w = .ok v' w from h5]
    simp only [Result.andThen_ok, Sem.run_bind]
    rw [h1]; rfl

def retQ (P : Program) (rs : List ResultVar) (r : Value) (H' : AHeap) : Exit → Slots → AHeap → Prop
  | .normal, σ, H => H = H' ∧ aRes P σ H rs fun vs => packed vs = r
  | .ret, σ, H => H = H' ∧ aRes P σ H rs fun vs => packed vs = r
  | _, _, _ => False

theorem results_sound {n : Nat} {fn : Func} {σ : Slots} {H : AHeap} {r : Value} (hok : resOk n fn.results.toList = true) (h : aRes P σ H fn.results.toList fun vs => packed vs = r) {m : Map} {w : World} {tmps : Array Value} (hr : Rel m H w) (ht : TRel m n σ tmps) :
    ∃ v', (results fn tmps).run P w = .ok v' w ∧ VRel m r v' := by
  obtain ⟨vs, hp, hs⟩ := aRes_sound _ _ hok h
  obtain ⟨vs', h1, h2⟩ := hs m w tmps hr ht
  refine ⟨packed vs', ?_, ?_⟩
  · have e : results fn tmps = (do let vs ← fn.results.mapM (resOf tmps); pure (if h : vs.size = 1 then vs[0] else .tuple vs)) := by
      unfold results
      congr 1
    rw [e, Sem.run_bind, Array.mapM_eq_mapM_toList]
    simp only [Sem.run_map]
    rw [h1]
    simp only [Result.andThen_ok, Sem.run_pure]
    congr 1
    match vs' with
    | [] => rfl
    | [v] => rfl
    | _ :: _ :: _ => rfl
  · rw [← hp]
    unfold packed
    match vs, vs', h2 with
    | [], vs', h2 => cases h2.nil_inv; exact .tuple' (VRelL.array (VRelL.nil m))
    | [v], vs', h2 =>
      obtain ⟨y, ys, rfl, h3, h4⟩ := h2.cons_inv
      cases h4.nil_inv; exact h3
    | v :: u :: r, vs', h2 =>
      obtain ⟨y, ys, rfl, h3, h4⟩ := h2.cons_inv
      obtain ⟨z, zs, rfl, h5, h6⟩ := h4.cons_inv
      exact .tuple' (VRelL.array ((h6.cons h5).cons h3))

/-- What is asked of a function before its contract is told: by computation. -/
def fnOk (P : Program) (fl : List Nat) (fn : Func) (nargs : Nat) : Bool :=
  decide (nargs ≤ fn.ntmps) && resOk fn.ntmps fn.results.toList && !(fn.name == "runtime.NumGoroutine") && (match fn.body with | some c => codeOk P fn.ntmps fl c | none => false)

def argSlots (args : Array Value) : Slots := fun t => args.getD t undef

theorem CallsA.of {f : FuncId} {fn : Func} {c : Code} {args : Array Value} {H H' : AHeap} {r : Value} (fl : List Nat) (hf : P.funcs[f]? = some fn) (hb : fn.body = some c) (hm : P.follows .mixedOrders = true)
    (hok : fnOk P fl fn args.size = true) (h : aCode P fl c (retQ P fn.results.toList r H') (argSlots args) H) : CallsA P f args H r H' := by
  unfold fnOk at hok
  rw [hb] at hok
  simp only [Bool.and_eq_true, decide_eq_true_eq, Bool.not_eq_true'] at hok
  obtain ⟨⟨⟨h1, h2⟩, h3⟩, h4⟩ := hok
  obtain ⟨e, σ', H1, hq, ext, hs⟩ := aCode_sound hm c _ _ _ h4 h
  have hres : H1 = H' ∧ aRes P σ' H1 fn.results.toList (fun vs => packed vs = r) ∧ (e = .normal ∨ e = .ret) := by
    cases e <;> first | exact hq.elim | exact ⟨hq.1, hq.2, by simp⟩
  obtain ⟨rfl, hres, he⟩ := hres
  refine ⟨ext, fun m w args' hr hfree hargs => ?_⟩
  have hcf : (callFunc f args').run P w = .ok (.enter f args') w := by
    unfold callFunc
    simp only [Sem.run_bind, run_program, Result.andThen_ok, hf, h3, hb]
    rfl
  unfold Invokes
  rw [hcf]
  refine calls_of_wp hf hb (wp_mono (hs m w _ hr hfree ⟨?_, fun t ht => ?_⟩) fun e' a' w' hp => ?_)
  · have := hargs.1
    simp; omega
  · have hsz := hargs.1
    simp only [argSlots, Array.getD_eq_getD_getElem?]
    by_cases hta : t < args.size
    · have := hargs.2 t hta
      simp only [Array.getD_eq_getD_getElem?] at this
      rw [Array.getElem?_append_left (by omega)]
      exact this
    · rw [Array.getElem?_append_right (by omega), Array.getElem?_eq_none (by omega : args.size ≤ t)]
      rw [Array.getElem?_replicate, if_pos (by omega)]
      exact VRel.undef m
  · obtain ⟨rfl, hd, m', ht', hst⟩ := hp
    obtain ⟨v', h5, h6⟩ := results_sound h2 hres hst.rel ht'
    rcases he with rfl | rfl
    · exact ⟨hd, v', h5, m', h6, hst⟩
    · exact ⟨hd, v', h5, m', h6, hst⟩

/-- A loop: an invariant with a number that falls. -/
theorem aLoop_rule {fl : List Nat} {c : Code} {Q : Exit → Slots → AHeap → Prop} (I : Nat → Slots → AHeap → Prop)
    (step : ∀ n σ H, I n σ H → ∀ R : Slots → AHeap → Prop, (∀ n', n' < n → ∀ σ H, I n' σ H → R σ H) → aCode P fl c (fun e σ' H' => match e with | .normal => R σ' H' | e => Q e σ' H') σ H)
    {n : Nat} {σ : Slots} {H : AHeap} (h : I n σ H) : aCode P fl (.loop c) Q σ H := by
  intro R hR
  induction n using Nat.strongRecOn generalizing σ H with
  | _ n ih => exact hR σ H (step n σ H h R fun n' hn σ H hI => ih n' hn hI)

/-- The rest of a function's code, as a stack. -/
inductive K where
  | code (c : Code)
  | blk (id : Nat)

def kont (P : Program) (fl : List Nat) (Q : Exit → Slots → AHeap → Prop) : List K → Exit → Slots → AHeap → Prop
  | [] => Q
  | .code c :: k => fun e σ H => match e with | .normal => aCode P fl c (kont P fl Q k) σ H | e => kont P fl Q k e σ H
  | .blk id :: k => fun e σ H => match e with | .exit id' => if id' = id then kont P fl Q k .normal σ H else kont P fl Q k (.exit id') σ H | e => kont P fl Q k e σ H

def run (P : Program) (fl : List Nat) (Q : Exit → Slots → AHeap → Prop) (c : Code) (k : List K) (σ : Slots) (H : AHeap) : Prop := aCode P fl c (kont P fl Q k) σ H
def next (P : Program) (fl : List Nat) (Q : Exit → Slots → AHeap → Prop) (k : List K) (σ : Slots) (H : AHeap) : Prop := kont P fl Q k .normal σ H
def leave (P : Program) (fl : List Nat) (Q : Exit → Slots → AHeap → Prop) (e : Exit) (k : List K) (σ : Slots) (H : AHeap) : Prop := kont P fl Q k e σ H
/-- A region's operations, the rest behind them. -/
def ops (P : Program) (fl : List Nat) (Q : Exit → Slots → AHeap → Prop) (mode : Nat) (all : Array Oper) (l : List Oper) (i : Nat) (acc : List (Nat × AHeap × AHeap)) (k : List K) (σ : Slots) (H : AHeap) : Prop :=
  aOpsL P mode all (fun σ H => next P fl Q k σ H) l i acc σ H

section
variable {fl : List Nat} {Q : Exit → Slots → AHeap → Prop} {k : List K} {σ : Slots} {H : AHeap}
theorem run_start {c : Code} : aCode P fl c Q σ H = run P fl Q c [] σ H := (rfl)
theorem run_skip : run P fl Q .skip k σ H = next P fl Q k σ H := (rfl)
theorem run_seq {a b : Code} : run P fl Q (.seq a b) k σ H = run P fl Q a (.code b :: k) σ H := (rfl)
theorem run_block {id : Nat} {c : Code} : run P fl Q (.block id c) k σ H = run P fl Q c (.blk id :: k) σ H := (rfl)
theorem run_exit {id : Nat} : run P fl Q (.exit id) k σ H = leave P fl Q (.exit id) k σ H := (rfl)
theorem run_ret : run P fl Q .ret k σ H = leave P fl Q .ret k σ H := (rfl)
theorem run_region {id : Nat} {os : Array Oper} {draw : Bool} : run P fl Q (.region id os draw) k σ H = ops P fl Q (modeOf fl id draw) os os.toList 0 [] k σ H := (rfl)
theorem run_cond {c : Operand} {x y : Code} : run P fl Q (.cond c x y) k σ H = match evO σ c with | .bool t => if t = true then run P fl Q x k σ H else run P fl Q y k σ H | _ => False := (rfl)
theorem next_code {c : Code} : next P fl Q (.code c :: k) σ H = run P fl Q c k σ H := (rfl)
theorem next_blk {id : Nat} : next P fl Q (.blk id :: k) σ H = next P fl Q k σ H := (rfl)
theorem next_nil : next P fl Q [] σ H = Q .normal σ H := (rfl)
theorem leave_nil {e : Exit} : leave P fl Q e [] σ H = Q e σ H := (rfl)
theorem leave_ret_code {c : Code} : leave P fl Q .ret (.code c :: k) σ H = leave P fl Q .ret k σ H := (rfl)
theorem leave_ret_blk {id : Nat} : leave P fl Q .ret (.blk id :: k) σ H = leave P fl Q .ret k σ H := (rfl)
theorem leave_exit_code {id : Nat} {c : Code} : leave P fl Q (.exit id) (.code c :: k) σ H = leave P fl Q (.exit id) k σ H := (rfl)
theorem leave_exit_blk {id id' : Nat} : leave P fl Q (.exit id') (.blk id :: k) σ H = if id' = id then next P fl Q k σ H else leave P fl Q (.exit id') k σ H := (rfl)
theorem ops_nil {mode i : Nat} {all : Array Oper} {acc : List (Nat × AHeap × AHeap)} : ops P fl Q mode all [] i acc k σ H = (floatCond all acc σ ∧ next P fl Q k σ H) := (rfl)
theorem ops_cons {mode i : Nat} {all : Array Oper} {acc : List (Nat × AHeap × AHeap)} {o : Oper} {r : List Oper} : ops P fl Q mode all (o :: r) i acc k σ H =
    if wantedA all σ o = true then aOp P σ H o (fun v H' => drawCond P mode all i o.op H H' ∧ ops P fl Q mode all r (i + 1) (accOf mode o.op i H H' acc) k (σ.put o.dst v) H')
    else ops P fl Q mode all r (i + 1) acc k (σ.put o.dst undef) H := rfl

/-- A loop on the stack. -/
theorem run_loop {c : Code} (I : Nat → Slots → AHeap → Prop) (n : Nat) (h : I n σ H)
    (step : ∀ n σ H, I n σ H → ∀ R : Slots → AHeap → Prop, (∀ n', n' < n → ∀ σ H, I n' σ H → R σ H) →
      run P fl (fun e σ' H' => match e with | .normal => R σ' H' | e => leave P fl Q e k σ' H') c [] σ H) : run P fl Q (.loop c) k σ H :=
  aLoop_rule I step h
end

end Go.Ah
