/- Words for the claim: the abstract heap and the functions walked over it, part 2. -/
import Derived.Test.YtjhonhliiilhdaaAhEMedianStay0
set_option linter.all false
/- Words for carrying code out over the abstract heap: equations for simp. No equation lays code under a binder. -/
namespace Go.Ah
variable {P : Program} {fl : List Nat} {Q : Exit → Slots → AHeap → Prop} {k : List K} {σ : Slots} {H : AHeap}

/-- What stands behind an operation. -/
def cont (P : Program) (fl : List Nat) (Q : Exit → Slots → AHeap → Prop) (mode : Nat) (all : Array Oper) (o : Oper) (r : List Oper) (i : Nat) (acc : List (Nat × AHeap × AHeap)) (k : List K) (σ : Slots) (H : AHeap) : Value → AHeap → Prop :=
  fun v H' => drawCond P mode all i o.op H H' ∧ ops P fl Q mode all r (i + 1) (accOf mode o.op i H H' acc) k (σ.put o.dst v) H'
def withH (Kk : Value → AHeap → Prop) (H : AHeap) : Value → Prop := fun v => Kk v H
def withU (Kk : Value → AHeap → Prop) : AHeap → Prop := fun H' => Kk undef H'
def aggK (Kk : Value → AHeap → Prop) (H : AHeap) : List Value → Prop := fun cs => Kk (.agg cs.toArray) H
def litK (Kk : Value → AHeap → Prop) (H : AHeap) (sz len : Nat) : List Value → Prop := fun cs => Kk (.slice (some ⟨H.size, 0, none⟩) len len) (H.push (.rw sz cs))
def boolK (K : Value → Prop) : Bool → Prop := fun b => K (.bool b)
def notK (K : Value → Prop) : Bool → Prop := fun b => K (.bool !b)
@[go_sem] theorem withH_app {Kk : Value → AHeap → Prop} {v : Value} : withH Kk H v = Kk v H := (rfl)
@[go_sem] theorem withU_app {Kk : Value → AHeap → Prop} : withU Kk H = Kk undef H := (rfl)
@[go_sem] theorem aggK_app {Kk : Value → AHeap → Prop} {cs : List Value} : aggK Kk H cs = Kk (.agg cs.toArray) H := (rfl)
@[go_sem] theorem litK_app {Kk : Value → AHeap → Prop} {cs : List Value} {sz len : Nat} : litK Kk H sz len cs = Kk (.slice (some ⟨H.size, 0, none⟩) len len) (H.push (.rw sz cs)) := (rfl)
@[go_sem] theorem boolK_app {K : Value → Prop} {b : Bool} : boolK K b = K (.bool b) := (rfl)
@[go_sem] theorem notK_app {K : Value → Prop} {b : Bool} : notK K b = K (.bool !b) := (rfl)

def condR (P : Program) (fl : List Nat) (Q : Exit → Slots → AHeap → Prop) (x y : Code) (k : List K) (σ : Slots) (H : AHeap) : Value → Prop
  | .bool t => if t = true then run P fl Q x k σ H else run P fl Q y k σ H
  | _ => False
/-- A fork, told apart by 'fork'. -/
def brC (P : Program) (fl : List Nat) (Q : Exit → Slots → AHeap → Prop) (x y : Code) (k : List K) (σ : Slots) (H : AHeap) (t : Bool) : Prop := if t = true then run P fl Q x k σ H else run P fl Q y k σ H
@[go_sem] theorem condR_bool {x y : Code} {t : Bool} : condR P fl Q x y k σ H (.bool t) = brC P fl Q x y k σ H t := (rfl)
@[go_sem] theorem brC_true {x y : Code} : brC P fl Q x y k σ H true = run P fl Q x k σ H := (rfl)
@[go_sem] theorem brC_false {x y : Code} : brC P fl Q x y k σ H false = run P fl Q y k σ H := (rfl)
theorem fork {x y : Code} {t : Bool} (h1 : t = true → run P fl Q x k σ H) (h2 : t = false → run P fl Q y k σ H) : brC P fl Q x y k σ H t := by
  cases t
  · exact h2 rfl
  · exact h1 rfl
@[go_sem] theorem run_cond' {c : Operand} {x y : Code} : run P fl Q (.cond c x y) k σ H = condR P fl Q x y k σ H (evO σ c) := by
  rw [run_cond]; unfold condR; cases evO σ c <;> rfl
attribute [go_sem] run_skip run_seq run_block run_exit run_ret run_region next_code next_blk next_nil leave_nil leave_ret_code leave_ret_blk leave_exit_code leave_exit_blk ops_nil

/-- Is the operation wanted? -/
def wantedV (w : Bool) : Value → Bool
  | .bool b => b == w
  | _ => false
@[go_sem] theorem wantedV_bool {w b : Bool} : wantedV w (.bool b) = (b == w) := (rfl)
@[go_sem] theorem wantedV_tuple {w : Bool} {xs : Array Value} : wantedV w (.tuple xs) = false := (rfl)
def guardV (all : Array Oper) (σ : Slots) (j : Nat) (w : Bool) : Bool := match (all[j]?).bind (·.dst) with
  | some t => wantedV w (σ t)
  | none => false

section
variable {d : Option Tmp} {ty : TypeId} {pos : String} {af : Array Edge} {g : Option (Nat × Bool)} {Kk : Value → AHeap → Prop} {all : Array Oper} {mode i : Nat} {acc : List (Nat × AHeap × AHeap)} {r : List Oper}
@[go_sem] theorem ops_cons_none {op : Op} : ops P fl Q mode all (⟨d, op, ty, pos, af, none⟩ :: r) i acc k σ H = aOp P σ H ⟨d, op, ty, pos, af, none⟩ (cont P fl Q mode all ⟨d, op, ty, pos, af, none⟩ r i acc k σ H) := by
  rw [ops_cons]; exact if_pos rfl
theorem guardV_eq {op : Op} {j : Nat} {w : Bool} : wantedA all σ ⟨d, op, ty, pos, af, some (j, w)⟩ = guardV all σ j w := by
  unfold wantedA guardV
  simp only
  cases (all[j]?).bind (·.dst) with
  | none => rfl
  | some t => cases h : σ t <;> simp [wantedV, h]
/-- A guarded operation. -/
def gdO (P : Program) (fl : List Nat) (Q : Exit → Slots → AHeap → Prop) (mode : Nat) (all : Array Oper) (o : Oper) (r : List Oper) (i : Nat) (acc : List (Nat × AHeap × AHeap)) (k : List K) (σ : Slots) (H : AHeap) (t : Bool) : Prop :=
  if t = true then aOp P σ H o (cont P fl Q mode all o r i acc k σ H) else ops P fl Q mode all r (i + 1) acc k (σ.put o.dst undef) H
@[go_sem] theorem gdO_true {o : Oper} : gdO P fl Q mode all o r i acc k σ H true = aOp P σ H o (cont P fl Q mode all o r i acc k σ H) := (rfl)
@[go_sem] theorem gdO_false {o : Oper} : gdO P fl Q mode all o r i acc k σ H false = ops P fl Q mode all r (i + 1) acc k (σ.put o.dst undef) H := (rfl)
theorem guard {o : Oper} {t : Bool} (h1 : t = true → aOp P σ H o (cont P fl Q mode all o r i acc k σ H)) (h2 : t = false → ops P fl Q mode all r (i + 1) acc k (σ.put o.dst undef) H) : gdO P fl Q mode all o r i acc k σ H t := by
  cases t
  · exact h2 rfl
  · exact h1 rfl
@[go_sem] theorem ops_cons_some {op : Op} {j : Nat} {w : Bool} : ops P fl Q mode all (⟨d, op, ty, pos, af, some (j, w)⟩ :: r) i acc k σ H =
    gdO P fl Q mode all ⟨d, op, ty, pos, af, some (j, w)⟩ r i acc k σ H (guardV all σ j w) := by
  rw [ops_cons, guardV_eq]; rfl
@[go_sem] theorem guardV_cons {j : Nat} {w : Bool} {l : List Oper} {o : Oper} : guardV (List.toArray (o :: l)) σ (j + 1) w = guardV (List.toArray l) σ j w := by simp [guardV]
@[go_sem] theorem guardV_zero {w : Bool} {l : List Oper} {op : Op} {t : Tmp} : guardV (List.toArray (⟨some t, op, ty, pos, af, g⟩ :: l)) σ 0 w = wantedV w (σ t) := by simp [guardV]
@[go_sem] theorem cont0 {o : Oper} {v : Value} {H' : AHeap} : cont P fl Q 0 all o r i acc k σ H v H' = ops P fl Q 0 all r (i + 1) acc k (σ.put o.dst v) H' := by
  unfold cont
  have h1 : drawCond P 0 all i o.op H H' = True := by unfold drawCond; split <;> simp_all
  have h2 : accOf 0 o.op i H H' acc = acc := by unfold accOf; split <;> simp_all
  rw [h1, h2, true_and]
/-- In a drawn region: a call that turns what was there stands apart from what is read. -/
def callCond (P : Program) (all : Array Oper) (i : Nat) (o : Op) (H H' : AHeap) : Prop := drawCond P 1 all i o H H'
@[go_sem] theorem cont1 {o : Oper} {v : Value} {H' : AHeap} : cont P fl Q 1 all o r i acc k σ H v H' = (callCond P all i o.op H H' ∧ ops P fl Q 1 all r (i + 1) acc k (σ.put o.dst v) H') := by
  unfold cont callCond
  have h2 : accOf 1 o.op i H H' acc = acc := by unfold accOf; split <;> simp_all
  rw [h2]
@[go_sem] theorem cont2 {o : Oper} {v : Value} {H' : AHeap} : cont P fl Q 2 all o r i acc k σ H v H' = (drawCond P 2 all i o.op H H' ∧ ops P fl Q 2 all r (i + 1) (accOf 2 o.op i H H' acc) k (σ.put o.dst v) H') := (rfl)
end
section
variable {all : Array Oper} {i : Nat} {H' : AHeap}
@[go_sem] theorem callCond_same {o : Op} : callCond P all i o H H = True := by
  unfold callCond drawCond
  apply eq_true
  split
  · split <;> first | trivial | exact .inl (AKeep.refl _)
  · split <;> first | trivial | exact .inl (AKeep.refl _)
  · trivial
@[go_sem] theorem callCond_push {o : Op} {x : AObj} : callCond P all i o H (H.push x) = True := by
  unfold callCond drawCond
  apply eq_true
  split
  · split <;> first | trivial | exact .inl (AKeep.push _ _)
  · split <;> first | trivial | exact .inl (AKeep.push _ _)
  · trivial
theorem callCond_keep {o : Op} (h : AKeep H H') : callCond P all i o H H' := by
  unfold callCond drawCond
  split
  · split <;> first | trivial | exact .inl h
  · split <;> first | trivial | exact .inl h
  · trivial
theorem callCond_bar {o : Op} (h : barrierB P all i = true) : callCond P all i o H H' := by
  unfold callCond drawCond
  split
  · split <;> first | trivial | exact .inr h
  · rename_i h1 _; omega
  · trivial
@[go_sem] theorem callCond_store {a : TypeId} {b c : Operand} : callCond P all i (.store a b c) H H' = True := (rfl)
@[go_sem] theorem callCond_mapUpdate {a : TypeId} {b c e : Operand} : callCond P all i (.mapUpdate a b c e) H H' = True := (rfl)
end

@[go_sem] theorem evO_tmp (t : Tmp) : evO σ (.tmp t) = σ t := (rfl)
@[go_sem] theorem evO_const (v : Value) : evO σ (.const v) = v := (rfl)
@[go_sem] theorem evO_func (f : FuncId) : evO σ (.func f) = .func (.func f) #[] #[] := (rfl)
@[go_sem] theorem put_some (d t : Tmp) (v : Value) : (Slots.put σ (some d) v) t = if t = d then v else σ t := (rfl)
@[go_sem] theorem put_none (v : Value) : Slots.put σ none v = σ := (rfl)
@[go_sem] theorem argSlots_cons (x : Value) (xs : List Value) (t : Nat) : argSlots (List.toArray (x :: xs)) (t + 1) = argSlots (List.toArray xs) t := by simp [argSlots]
@[go_sem] theorem argSlots_zero (x : Value) (xs : List Value) : argSlots (List.toArray (x :: xs)) 0 = x := by simp [argSlots]
@[go_sem] theorem floatCond_nil {all : Array Oper} : floatCond all [] σ = True := by simp [floatCond]
@[go_sem] theorem modeOf_false {id : Nat} : modeOf fl id false = 0 := (rfl)
@[go_sem] theorem modeOf_nil {id : Nat} : modeOf [] id true = 1 := (rfl)
theorem modeOf_true {id : Nat} : modeOf fl id true = if fl.contains id = true then 2 else 1 := (rfl)

/- operations -/
section
variable {d : Option Tmp} {ty : TypeId} {pos : String} {af : Array Edge} {g : Option (Nat × Bool)} {Kk : Value → AHeap → Prop}
@[go_sem] theorem aOp_move {x : Operand} : aOp P σ H ⟨d, .move x, ty, pos, af, g⟩ Kk = Kk (evO σ x) H := (rfl)
@[go_sem] theorem aOp_assign {x : Operand} : aOp P σ H ⟨d, .assign x, ty, pos, af, g⟩ Kk = Kk (evO σ x) H := (rfl)
def pickV (t : Bool) (x y : Value) : Value := if t = true then x else y
@[go_sem] theorem pickV_true {x y : Value} : pickV true x y = x := (rfl)
@[go_sem] theorem pickV_false {x y : Value} : pickV false x y = y := (rfl)
@[go_sem] theorem pickV_and {t u : Bool} : pickV t (.bool u) (.bool false) = .bool (t && u) := by cases t <;> rfl
@[go_sem] theorem pickV_or {t u : Bool} : pickV t (.bool true) (.bool u) = .bool (t || u) := by cases t <;> rfl
def pickK (x y : Value) (H : AHeap) (Kk : Value → AHeap → Prop) : Value → Prop
  | .bool t => Kk (pickV t x y) H
  | _ => False
@[go_sem] theorem pickK_bool {x y : Value} {t : Bool} : pickK x y H Kk (.bool t) = Kk (pickV t x y) H := (rfl)
@[go_sem] theorem aOp_pick {c x y : Operand} : aOp P σ H ⟨d, .pick c x y, ty, pos, af, g⟩ Kk = pickK (evO σ x) (evO σ y) H Kk (evO σ c) := by
  show (match evO σ c with | .bool t => Kk (if t then evO σ x else evO σ y) H | _ => False) = _
  unfold pickK; cases evO σ c <;> rfl
def allocK (Kk : Value → AHeap → Prop) (H : AHeap) : Option Value → Prop
  | some z => plainV z = true ∧ Kk (.pointer (some ⟨H.size, 0, none⟩)) (H.push (.rw z.cells.size z.cells.toList))
  | none => False
@[go_sem] theorem allocK_some {z : Value} : allocK Kk H (some z) = (plainV z = true ∧ Kk (.pointer (some ⟨H.size, 0, none⟩)) (H.push (.rw z.cells.size z.cells.toList))) := (rfl)
@[go_sem] theorem aOp_alloc {e : TypeId} : aOp P σ H ⟨d, .alloc e, ty, pos, af, g⟩ Kk = allocK Kk H (tZero P e) := by
  show (match tZero P e with | some z => plainV z = true ∧ Kk (.pointer (some ⟨H.size, 0, none⟩)) (H.push (.rw z.cells.size z.cells.toList)) | none => False) = _
  unfold allocK; cases tZero P e <;> rfl
@[go_sem] theorem aOp_box {e : TypeId} {x : Operand} : aOp P σ H ⟨d, .box e x, ty, pos, af, g⟩ Kk = Kk (.pointer (some ⟨H.size, 0, none⟩)) (H.push (.rw (evO σ x).cells.size (evO σ x).cells.toList)) := (rfl)
def partsOf (σ : Slots) (ps : List (Nat × Operand)) : List (Nat × Value) := ps.map fun p => (p.1, evO σ p.2)
@[go_sem] theorem partsOf_nil : partsOf σ [] = [] := (rfl)
@[go_sem] theorem partsOf_cons {p : Nat} {x : Operand} {r : List (Nat × Operand)} : partsOf σ ((p, x) :: r) = (p, evO σ x) :: partsOf σ r := (rfl)
def buildK (ps : Option (List (Nat × Nat))) (z : Option Value) (parts : List (Nat × Value)) (K : List Value → Prop) : Prop := match ps, z with
  | some ps, some z => plainV z = true ∧ aFill (fun i => ps[i]?) K parts z.cells.toList
  | _, _ => False
/-- Parts laid at their places, told without a binder. -/
def fillL (ps : List (Nat × Nat)) (K : List Value → Prop) (parts : List (Nat × Value)) (cs : List Value) : Prop := aFill (fun i => ps[i]?) K parts cs
def fillS (sz : Nat) (K : List Value → Prop) (parts : List (Nat × Value)) (cs : List Value) : Prop := aFill (fun i => some (i * sz, sz)) K parts cs
@[go_sem] theorem fillL_nil {ps : List (Nat × Nat)} {K : List Value → Prop} {cs : List Value} : fillL ps K [] cs = K cs := (rfl)
def fillStep (pl : Option (Nat × Nat)) (v : Value) (cs : List Value) (K : List Value → Prop) : Prop := match pl with
  | some (off, n) => v.cells.size = n ∧ off + n ≤ cs.length ∧ K (splice cs off v.cells.toList)
  | none => False
@[go_sem] theorem fillStep_some {off n : Nat} {v : Value} {cs : List Value} {K : List Value → Prop} : fillStep (some (off, n)) v cs K = (v.cells.size = n ∧ off + n ≤ cs.length ∧ K (splice cs off v.cells.toList)) := (rfl)
@[go_sem] theorem fillL_cons {ps : List (Nat × Nat)} {K : List Value → Prop} {cs : List Value} {i : Nat} {v : Value} {r : List (Nat × Value)} : fillL ps K ((i, v) :: r) cs = fillStep ps[i]? v cs (fillL ps K r) := by
  unfold fillL fillStep
  rw [aFill]
  cases ps[i]? <;> rfl
@[go_sem] theorem fillS_nil {sz : Nat} {K : List Value → Prop} {cs : List Value} : fillS sz K [] cs = K cs := (rfl)
@[go_sem] theorem fillS_cons {sz : Nat} {K : List Value → Prop} {cs : List Value} {i : Nat} {v : Value} {r : List (Nat × Value)} : fillS sz K ((i, v) :: r) cs = (v.cells.size = sz ∧ i * sz + sz ≤ cs.length ∧ fillS sz K r (splice cs (i * sz) v.cells.toList)) := (rfl)
@[go_sem] theorem buildK_some {ps : List (Nat × Nat)} {z : Value} {parts : List (Nat × Value)} {K : List Value → Prop} : buildK (some ps) (some z) parts K = (plainV z = true ∧ fillL ps K parts z.cells.toList) := (rfl)
def isStructD : Option TypeDesc → Bool
  | some (.struct _) => true
  | _ => false
@[go_sem] theorem isStructD_struct {fs : Array Field} : isStructD (some (.struct fs)) = true := (rfl)
@[go_sem] theorem aOp_build {t : TypeId} {parts : List (Nat × Operand)} (h : isStructD (P.underlying t) = true) : aOp P σ H ⟨d, .build t (List.toArray parts), ty, pos, af, g⟩ Kk = buildK (tPlaces P t) (tZero P t) (partsOf σ parts) (aggK Kk H) := by
  cases hu : P.underlying t with
  | none => rw [hu] at h; cases h
  | some D =>
    rw [hu] at h
    cases D <;> first | (cases h; done) | skip
    rename_i fs
    simp only [aOp, hu]
    unfold buildK
    cases tPlaces P t <;> cases tZero P t <;> rfl
def litS (x : Option (Nat × Nat × Option Value)) (len : Nat) (parts : List (Nat × Value)) (Kk : Value → AHeap → Prop) (H : AHeap) : Prop := match x with
  | some (sz, _, some z) => plainV z = true ∧ z.cells.size = sz ∧ 0 < sz ∧ len * sz ≤ 16777216 ∧ fillS sz (litK Kk H sz len) parts (repCells z.cells.toList len)
  | _ => False
@[go_sem] theorem litS_some {sz b len : Nat} {z : Value} {parts : List (Nat × Value)} : litS (some (sz, b, some z)) len parts Kk H = (plainV z = true ∧ z.cells.size = sz ∧ 0 < sz ∧ len * sz ≤ 16777216 ∧ fillS sz (litK Kk H sz len) parts (repCells z.cells.toList len)) := (rfl)
@[go_sem] theorem aOp_buildSlice {t : TypeId} {len : Nat} {parts : List (Nat × Operand)} : aOp P σ H ⟨d, .buildSlice t len (List.toArray parts), ty, pos, af, g⟩ Kk = litS (tElem P t) len (partsOf σ parts) Kk H := by
  unfold litS
  simp only [aOp]
  rcases tElem P t with _ | ⟨sz, b, _ | z⟩ <;> rfl
@[go_sem] theorem rep_zero {z : List Value} : repCells z 0 = [] := (rfl)
@[go_sem] theorem rep_succ {z : List Value} {n : Nat} : repCells z (n + 1) = z ++ repCells z n := by simp [repCells, List.replicate_succ]

@[go_sem] theorem aOp_load {t : TypeId} {x : Operand} : aOp P σ H ⟨d, .load t x, ty, pos, af, g⟩ Kk = aLoad P H t (evO σ x) (withH Kk H) := (rfl)
@[go_sem] theorem aOp_store {t : TypeId} {x y : Operand} : aOp P σ H ⟨d, .store t x y, ty, pos, af, g⟩ Kk = aStore P H t (evO σ x) (evO σ y) (withU Kk) := (rfl)
def nilK (Kk : Value → AHeap → Prop) (H : AHeap) : Value → Prop
  | .pointer (some a) => Kk (.pointer (some a)) H
  | .func (.func f) xs ys => Kk (.func (.func f) xs ys) H
  | _ => False
@[go_sem] theorem nilK_ptr {a : Addr} : nilK Kk H (.pointer (some a)) = Kk (.pointer (some a)) H := (rfl)
@[go_sem] theorem nilK_func {f : FuncId} {xs ys : Array Value} : nilK Kk H (.func (.func f) xs ys) = Kk (.func (.func f) xs ys) H := (rfl)
@[go_sem] theorem aOp_nilCheck {x : Operand} : aOp P σ H ⟨d, .nilCheck x, ty, pos, af, g⟩ Kk = nilK Kk H (evO σ x) := by
  simp only [aOp]; unfold nilK; rfl
@[go_sem] theorem aOp_binOp {op : BinOp} {t yt : TypeId} {x y : Operand} : aOp P σ H ⟨d, .binOp op t x y yt, ty, pos, af, g⟩ Kk = aBin P op t (isConstO x || isConstO y) (evO σ x) (evO σ y) (withH Kk H) := (rfl)
@[go_sem] theorem aOp_unOp {op : UnOp} {t : TypeId} {x : Operand} : aOp P σ H ⟨d, .unOp op t x, ty, pos, af, g⟩ Kk = aUn op (evO σ x) (withH Kk H) := (rfl)
@[go_sem] theorem aOp_convert {s t : TypeId} {x : Operand} : aOp P σ H ⟨d, .convert s t x, ty, pos, af, g⟩ Kk = aConv P s t (evO σ x) (withH Kk H) := (rfl)
def evL (σ : Slots) (xs : List Operand) : List Value := xs.map (evO σ)
@[go_sem] theorem evL_nil : evL σ [] = [] := (rfl)
@[go_sem] theorem evL_cons {x : Operand} {xs : List Operand} : evL σ (x :: xs) = evO σ x :: evL σ xs := (rfl)
@[go_sem] theorem aOp_makeFunc {fn : Fn} {x y : List Operand} : aOp P σ H ⟨d, .makeFunc fn (List.toArray x) (List.toArray y), ty, pos, af, g⟩ Kk = Kk (.func fn (List.toArray (evL σ x)) (List.toArray (evL σ y))) H := by
  simp [aOp, evL]
@[go_sem] theorem aOp_makeMap {t : TypeId} : aOp P σ H ⟨d, .makeMap t none, ty, pos, af, g⟩ Kk = Kk (.map (some H.size)) (H.push (.mp [])) := (rfl)
@[go_sem] theorem aOp_makeSlice {t : TypeId} {x y : Operand} : aOp P σ H ⟨d, .makeSlice t x y, ty, pos, af, g⟩ Kk = aMake P H t (evO σ x) (evO σ y) Kk := (rfl)
def evOpt (σ : Slots) : Option Operand → Option Value
  | some x => some (evO σ x)
  | none => none
@[go_sem] theorem evOpt_some {x : Operand} : evOpt σ (some x) = some (evO σ x) := (rfl)
@[go_sem] theorem evOpt_none : evOpt σ none = none := (rfl)
@[go_sem] theorem aOp_slice {t : TypeId} {x : Operand} {lo hi mx : Option Operand} : aOp P σ H ⟨d, .slice t x lo hi mx, ty, pos, af, g⟩ Kk = aSlice P H t (evO σ x) (evOpt σ lo) (evOpt σ hi) (evOpt σ mx) (withH Kk H) := by
  cases lo <;> cases hi <;> cases mx <;> rfl
def fieldK (Kk : Value → AHeap → Prop) (H : AHeap) (v : Value) (f : Option (Nat × Nat × Bool)) : Prop := match v, f with
  | .pointer (some ⟨id, off, none⟩), some (fo, sz, _) => sz ≠ 0 ∧ Kk (.pointer (some ⟨id, off + fo, none⟩)) H
  | _, _ => False
@[go_sem] theorem fieldK_ptr {id off fo sz : Nat} {b : Bool} : fieldK Kk H (.pointer (some ⟨id, off, none⟩)) (some (fo, sz, b)) = (sz ≠ 0 ∧ Kk (.pointer (some ⟨id, off + fo, none⟩)) H) := (rfl)
@[go_sem] theorem aOp_fieldAddr {t : TypeId} {x : Operand} {f : Nat} : aOp P σ H ⟨d, .fieldAddr t x f, ty, pos, af, g⟩ Kk = fieldK Kk H (evO σ x) (tField P t f) := by
  simp only [aOp]; unfold fieldK; rfl
def fieldV (K : Value → Prop) (v : Value) (f : Option (Nat × Nat × Bool)) : Prop := match v, f with
  | .agg cs, some (fo, sz, ag) => cellsAt cs.toList fo (sz, ag) K
  | _, _ => False
@[go_sem] theorem fieldV_agg {K : Value → Prop} {cs : List Value} {fo sz : Nat} {ag : Bool} : fieldV K (.agg (List.toArray cs)) (some (fo, sz, ag)) = cellsAt cs fo (sz, ag) K := (rfl)
@[go_sem] theorem aOp_field {t : TypeId} {x : Operand} {f : Nat} : aOp P σ H ⟨d, .field t x f, ty, pos, af, g⟩ Kk = fieldV (withH Kk H) (evO σ x) (tField P t f) := by
  simp only [aOp]; unfold fieldV; rfl
@[go_sem] theorem aOp_indexAddr {t : TypeId} {x i : Operand} : aOp P σ H ⟨d, .indexAddr t x i, ty, pos, af, g⟩ Kk = aIndexAddr P t (evO σ x) (evO σ i) (withH Kk H) := (rfl)
@[go_sem] theorem aOp_index {t : TypeId} {x i : Operand} : aOp P σ H ⟨d, .index t x i, ty, pos, af, g⟩ Kk = aIndex P t (evO σ x) (evO σ i) (withH Kk H) := (rfl)
@[go_sem] theorem aOp_lookup {t : TypeId} {x i : Operand} {ok : Bool} : aOp P σ H ⟨d, .lookup t x i ok, ty, pos, af, g⟩ Kk = aLookup P H t (evO σ x) (evO σ i) ok (withH Kk H) := (rfl)
@[go_sem] theorem aOp_mapUpdate {t : TypeId} {x i y : Operand} : aOp P σ H ⟨d, .mapUpdate t x i y, ty, pos, af, g⟩ Kk = aMapUpdate P H t (evO σ x) (evO σ i) (evO σ y) (withU Kk) := (rfl)
def extractK (Kk : Value → AHeap → Prop) (H : AHeap) (i : Nat) : Value → Prop
  | .tuple vs => i < vs.size ∧ Kk (vs.getD i undef) H
  | _ => False
@[go_sem] theorem extractK_zero {v : Value} {vs : List Value} : extractK Kk H 0 (.tuple (List.toArray (v :: vs))) = Kk v H := by simp [extractK]
@[go_sem] theorem extractK_one {v u : Value} {vs : List Value} : extractK Kk H 1 (.tuple (List.toArray (v :: u :: vs))) = Kk u H := by simp [extractK]
@[go_sem] theorem extractK_two {v u x : Value} {vs : List Value} : extractK Kk H 2 (.tuple (List.toArray (v :: u :: x :: vs))) = Kk x H := by simp [extractK]
@[go_sem] theorem extractK_three {v u x y : Value} {vs : List Value} : extractK Kk H 3 (.tuple (List.toArray (v :: u :: x :: y :: vs))) = Kk y H := by simp [extractK]
@[go_sem] theorem aOp_extract {x : Operand} {i : Nat} : aOp P σ H ⟨d, .extract x i, ty, pos, af, g⟩ Kk = extractK Kk H i (evO σ x) := by
  simp only [aOp]; unfold extractK; rfl
@[go_sem] theorem aOp_builtin {b : Builtin} {xs : List Operand} {ts : List TypeId} : aOp P σ H ⟨d, .call ⟨.builtin b, List.toArray xs, List.toArray ts⟩, ty, pos, af, g⟩ Kk = aBuiltin P H b ts (evL σ xs) Kk := (rfl)
def callK (P : Program) (H : AHeap) (args : List Value) (Kk : Value → AHeap → Prop) : Value → Prop
  | .func (.func gg) first captured => ∃ r H', CallsA P gg (first ++ args.toArray ++ captured) H r H' ∧ Kk r H'
  | _ => False
/-- A call, to be met by the callee's contract: 'call_by'. -/
def callA (P : Program) (f : FuncId) (args : Array Value) (H : AHeap) (Kk : Value → AHeap → Prop) : Prop := ∃ r H', CallsA P f args H r H' ∧ Kk r H'
theorem call_by {f : FuncId} {args : Array Value} {r : Value} {H' : AHeap} (h : CallsA P f args H r H') (hk : Kk r H') : callA P f args H Kk := ⟨r, H', h, hk⟩
@[go_sem] theorem callK_func {gg : FuncId} {args : List Value} : callK P H args Kk (.func (.func gg) #[] #[]) = callA P gg args.toArray H Kk := by simp [callK, callA]
@[go_sem] theorem callK_closure {gg : FuncId} {args xs ys : List Value} : callK P H args Kk (.func (.func gg) (List.toArray xs) (List.toArray ys)) = callA P gg (xs ++ args ++ ys).toArray H Kk := by simp [callK, callA]
@[go_sem] theorem aOp_call {f : Operand} {xs : List Operand} {ts : Array TypeId} : aOp P σ H ⟨d, .call ⟨.value f, List.toArray xs, ts⟩, ty, pos, af, g⟩ Kk = callK P H (evL σ xs) Kk (evO σ f) := by
  have e : (List.toArray xs).map (evO σ) = (evL σ xs).toArray := by simp [evL]
  simp only [aOp]
  unfold callK
  rw [← e]
  cases evO σ f <;> rfl
end

/- reading and writing -/
section
variable {K : Value → Prop} {KH : AHeap → Prop}
def loadK (x : Option (Nat × Bool)) (cs : Option (List Value)) (off : Nat) (K : Value → Prop) : Prop := match x, cs with
  | some x, some cs => cellsAt cs off x K
  | _, _ => False
@[go_sem] theorem aLoad_ptr {t : TypeId} {id off : Nat} : aLoad P H t (.pointer (some ⟨id, off, none⟩)) K = loadK (tVar P t) (H.get id).cells? off K := (rfl)
@[go_sem] theorem loadK_some {x : Nat × Bool} {cs : List Value} {off : Nat} : loadK (some x) (some cs) off K = cellsAt cs off x K := (rfl)
@[go_sem] theorem cellsAt_one {cs : List Value} {off n : Nat} : cellsAt cs off (n, false) K = (off < cs.length ∧ K (cs.getD off undef)) := (rfl)
@[go_sem] theorem cellsAt_agg {cs : List Value} {off n : Nat} : cellsAt cs off (n, true) K = (off + n ≤ cs.length ∧ K (.agg ((cs.drop off).take n).toArray)) := (rfl)
@[go_sem] theorem cells_ro {e : Nat} {cs : List Value} : (AObj.ro e cs).cells? = some cs := (rfl)
@[go_sem] theorem cells_rw {e : Nat} {cs : List Value} : (AObj.rw e cs).cells? = some cs := (rfl)
@[go_sem] theorem esz_ro {e : Nat} {cs : List Value} : (AObj.ro e cs).esz? = some e := (rfl)
@[go_sem] theorem esz_rw {e : Nat} {cs : List Value} : (AObj.rw e cs).esz? = some e := (rfl)
def storeK (n : Option Nat) (o : AObj) (H : AHeap) (id off : Nat) (v : Value) (K : AHeap → Prop) : Prop := match n, o with
  | some n, .rw e cs => v.cells.size = n ∧ v.cells.toList.all (·.oneCell') = true ∧ off + n ≤ cs.length ∧ K (H.set id (.rw e (splice cs off v.cells.toList)))
  | _, _ => False
@[go_sem] theorem aStore_ptr {t : TypeId} {id off : Nat} {v : Value} : aStore P H t (.pointer (some ⟨id, off, none⟩)) v KH = storeK (tSz P t) (H.get id) H id off v KH := (rfl)
@[go_sem] theorem storeK_rw {n e id off : Nat} {cs : List Value} {v : Value} : storeK (some n) (.rw e cs) H id off v KH = (v.cells.size = n ∧ v.cells.toList.all (·.oneCell') = true ∧ off + n ≤ cs.length ∧ KH (H.set id (.rw e (splice cs off v.cells.toList)))) := (rfl)
@[go_sem] theorem splice_nil {cs : List Value} {off : Nat} : splice cs off [] = cs := (rfl)
@[go_sem] theorem splice_cons {cs r : List Value} {off : Nat} {v : Value} : splice cs off (v :: r) = splice (cs.set off v) (off + 1) r := (rfl)
@[go_sem] theorem cells_int {kd : IntKind} {n : Int} : (Value.int kd n).cells = #[.int kd n] := (rfl)
@[go_sem] theorem cells_bool {b : Bool} : (Value.bool b).cells = #[.bool b] := (rfl)
@[go_sem] theorem cells_str {s : ByteArray} : (Value.string s).cells = #[.string s] := (rfl)
@[go_sem] theorem cells_slice {a : Option Addr} {l c : Nat} : (Value.slice a l c).cells = #[.slice a l c] := (rfl)
@[go_sem] theorem cells_ptr {a : Option Addr} : (Value.pointer a).cells = #[.pointer a] := (rfl)
@[go_sem] theorem cells_map {r : Option Nat} : (Value.map r).cells = #[.map r] := (rfl)
@[go_sem] theorem cells_agg {cs : Array Value} : (Value.agg cs).cells = cs := (rfl)
@[go_sem] theorem cells_func {f : Fn} {xs ys : Array Value} : (Value.func f xs ys).cells = #[.func f xs ys] := (rfl)
@[go_sem] theorem cells_nilFunc : (Value.nilFunc).cells = #[.nilFunc] := (rfl)
attribute [go_sem] Value.oneCell' plainV plainCell
attribute [go_sem] List.getD_cons_zero List.getD_cons_succ List.set_cons_zero List.set_cons_succ List.drop_zero List.drop_succ_cons List.take_zero List.take_succ_cons List.length_cons List.length_nil List.all_cons List.all_nil List.size_toArray List.cons_append List.nil_append List.append_nil
@[go_sem] theorem toArr_list {l : List Value} : (List.toArray l).toList = l := (rfl)
@[go_sem] theorem toArr_listT {l : List TypeId} : (List.toArray l).toList = l := (rfl)
end

/- numbers, texts, tests -/
section
variable {t : TypeId} {c : Bool} {K : Value → Prop} {kd : IntKind} {a b : Int} {x y : ByteArray}
@[go_sem] theorem bin_add : aBin P .add t c (.int kd a) (.int kd b) K = K (.int kd (kd.wrap (a + b))) := by simp [aBin, aInt]
@[go_sem] theorem bin_sub : aBin P .sub t c (.int kd a) (.int kd b) K = K (.int kd (kd.wrap (a - b))) := by simp [aBin, aInt]
@[go_sem] theorem bin_mul : aBin P .mul t c (.int kd a) (.int kd b) K = K (.int kd (kd.wrap (a * b))) := by simp [aBin, aInt]
@[go_sem] theorem bin_quo : aBin P .quo t c (.int kd a) (.int kd b) K = (b ≠ 0 ∧ K (.int kd (kd.wrap (a.tdiv b)))) := by simp [aBin, aInt]
@[go_sem] theorem bin_rem : aBin P .rem t c (.int kd a) (.int kd b) K = (b ≠ 0 ∧ K (.int kd (a.tmod b))) := by simp [aBin, aInt]
@[go_sem] theorem bin_eql : aBin P .eql t c (.int kd a) (.int kd b) K = K (.bool (a == b)) := by simp [aBin, aInt]
@[go_sem] theorem bin_neq : aBin P .neq t c (.int kd a) (.int kd b) K = K (.bool (a != b)) := by simp [aBin, aInt]
@[go_sem] theorem bin_lss : aBin P .lss t c (.int kd a) (.int kd b) K = K (.bool (decide (a < b))) := by simp [aBin, aInt]
@[go_sem] theorem bin_leq : aBin P .leq t c (.int kd a) (.int kd b) K = K (.bool (decide (a ≤ b))) := by simp [aBin, aInt]
@[go_sem] theorem bin_gtr : aBin P .gtr t c (.int kd a) (.int kd b) K = K (.bool (decide (b < a))) := by simp [aBin, aInt]
@[go_sem] theorem bin_geq : aBin P .geq t c (.int kd a) (.int kd b) K = K (.bool (decide (b ≤ a))) := by simp [aBin, aInt]
@[go_sem] theorem bin_shl {k2 : IntKind} : aBin P .shl t c (.int kd a) (.int k2 b) K = (0 ≤ b ∧ K (.int kd (kd.wrap (a * 2 ^ (min b.toNat kd.bits))))) := by simp [aBin]
@[go_sem] theorem bin_shr {k2 : IntKind} : aBin P .shr t c (.int kd a) (.int k2 b) K = (0 ≤ b ∧ K (.int kd (a.fdiv (2 ^ (min b.toNat kd.bits))))) := by simp [aBin]
@[go_sem] theorem str_add : aBin P .add t c (.string x) (.string y) K = (x.size + y.size ≤ 4611686018427387904 ∧ K (.string (x ++ y))) := by simp [aBin, aStr]
@[go_sem] theorem str_eql : aBin P .eql t c (.string x) (.string y) K = K (.bool (x.toList == y.toList)) := by simp [aBin, aStr]
@[go_sem] theorem str_neq : aBin P .neq t c (.string x) (.string y) K = K (.bool !(x.toList == y.toList)) := by simp [aBin, aStr]
@[go_sem] theorem str_lss : aBin P .lss t c (.string x) (.string y) K = K (.bool (Op.bytesLess x.toList y.toList)) := by simp [aBin, aStr]
def isSliceD : Option TypeDesc → Bool
  | some (.slice _) => true
  | _ => false
def isPtrD : Option TypeDesc → Bool
  | some (.pointer _) => true
  | _ => false
def isBoolD : Option TypeDesc → Bool
  | some .bool => true
  | _ => false
def isIfaceD : Option TypeDesc → Bool
  | some (.interface _) => true
  | _ => false
@[go_sem] theorem isSliceD_slice {e : TypeId} : isSliceD (some (.slice e)) = true := (rfl)
@[go_sem] theorem isPtrD_ptr {e : TypeId} : isPtrD (some (.pointer e)) = true := (rfl)
@[go_sem] theorem isBoolD_bool : isBoolD (some .bool) = true := (rfl)
@[go_sem] theorem isIfaceD_iface {ms : Array (String × TypeId)} : isIfaceD (some (.interface ms)) = true := (rfl)
@[go_sem] theorem bool_eql {p q : Bool} (h : isBoolD (P.underlying t) = true) : aBin P .eql t c (.bool p) (.bool q) K = K (.bool (p == q)) := by
  rcases hu : P.underlying t with _ | D
  · rw [hu] at h; cases h
  · rw [hu] at h; cases D <;> first | (cases h; done) | simp [aBin, aEq, hu]
@[go_sem] theorem bool_neq {p q : Bool} (h : isBoolD (P.underlying t) = true) : aBin P .neq t c (.bool p) (.bool q) K = K (.bool !(p == q)) := by
  rcases hu : P.underlying t with _ | D
  · rw [hu] at h; cases h
  · rw [hu] at h; cases D <;> first | (cases h; done) | simp [aBin, aEq, hu]
@[go_sem] theorem slice_eql {p : Option Addr} {l1 c1 l2 c2 : Nat} (h : isSliceD (P.underlying t) = true) : aBin P .eql t c (.slice p l1 c1) (.slice none l2 c2) K = K (.bool p.isNone) := by
  rcases hu : P.underlying t with _ | D
  · rw [hu] at h; cases h
  · rw [hu] at h; cases D <;> first | (cases h; done) | simp [aBin, aEq, hu]
@[go_sem] theorem slice_neq {p : Option Addr} {l1 c1 l2 c2 : Nat} (h : isSliceD (P.underlying t) = true) : aBin P .neq t c (.slice p l1 c1) (.slice none l2 c2) K = K (.bool !p.isNone) := by
  rcases hu : P.underlying t with _ | D
  · rw [hu] at h; cases h
  · rw [hu] at h; cases D <;> first | (cases h; done) | simp [aBin, aEq, hu]
@[go_sem] theorem iface_neq {v : Value} {tt : TypeId} (h : isIfaceD (P.underlying t) = true) : aBin P .neq t c (.iface tt v) .nilIface K = K (.bool true) := by
  rcases hu : P.underlying t with _ | D
  · rw [hu] at h; cases h
  · rw [hu] at h; cases D <;> first | (cases h; done) | simp [aBin, aEq, hu]
@[go_sem] theorem iface_eql {v : Value} {tt : TypeId} (h : isIfaceD (P.underlying t) = true) : aBin P .eql t c (.iface tt v) .nilIface K = K (.bool false) := by
  rcases hu : P.underlying t with _ | D
  · rw [hu] at h; cases h
  · rw [hu] at h; cases D <;> first | (cases h; done) | simp [aBin, aEq, hu]
@[go_sem] theorem niface_neq (h : isIfaceD (P.underlying t) = true) : aBin P .neq t true .nilIface .nilIface K = K (.bool false) := by
  rcases hu : P.underlying t with _ | D
  · rw [hu] at h; cases h
  · rw [hu] at h; cases D <;> first | (cases h; done) | simp [aBin, aEq, hu]
@[go_sem] theorem niface_eql (h : isIfaceD (P.underlying t) = true) : aBin P .eql t true .nilIface .nilIface K = K (.bool true) := by
  rcases hu : P.underlying t with _ | D
  · rw [hu] at h; cases h
  · rw [hu] at h; cases D <;> first | (cases h; done) | simp [aBin, aEq, hu]
@[go_sem] theorem un_not {p : Bool} : aUn .not (.bool p) K = K (.bool !p) := (rfl)
@[go_sem] theorem un_neg : aUn .neg (.int kd a) K = K (.int kd (kd.wrap (0 - a))) := (rfl)
def convK (s : Option TypeDesc) (n : Int) (K : Value → Prop) : Option TypeDesc → Prop
  | some (.int k) => s.isSome = true ∧ K (.int k (k.wrap n))
  | _ => False
@[go_sem] theorem convK_int {s : Option TypeDesc} {n : Int} {k2 : IntKind} : convK s n K (some (.int k2)) = (s.isSome = true ∧ K (.int k2 (k2.wrap n))) := (rfl)
@[go_sem] theorem conv_int {s : TypeId} : aConv P s t (.int kd a) K = convK (P.underlying s) a K (P.underlying t) := by
  unfold aConv convK
  rcases P.underlying s with _ | D1 <;> rcases P.underlying t with _ | D2 <;> simp
  all_goals (cases D2 <;> simp)
end

/- lengths, elements, slices, appends, maps -/
section
variable {t : TypeId} {K : Value → Prop} {Kk : Value → AHeap → Prop} {KH : AHeap → Prop}
def isStrD : Option TypeDesc → Bool
  | some .string => true
  | _ => false
@[go_sem] theorem isStrD_str : isStrD (some .string) = true := (rfl)
@[go_sem] theorem len_slice {a : Option Addr} {l c : Nat} (h : isSliceD (P.underlying t) = true) : aBuiltin P H .len [t] [.slice a l c] Kk = Kk (.int .i64 l) H := by
  rcases hu : P.underlying t with _ | D
  · rw [hu] at h; cases h
  · rw [hu] at h; cases D <;> first | (cases h; done) | simp [aBuiltin, aLen, hu]
@[go_sem] theorem len_str {s : ByteArray} (h : isStrD (P.underlying t) = true) : aBuiltin P H .len [t] [.string s] Kk = Kk (.int .i64 s.size) H := by
  rcases hu : P.underlying t with _ | D
  · rw [hu] at h; cases h
  · rw [hu] at h; cases D <;> first | (cases h; done) | simp [aBuiltin, aLen, hu]
@[go_sem] theorem blt_max {ts : List TypeId} {a b : Int} {kd : IntKind} : aBuiltin P H .max ts [.int kd a, .int kd b] Kk = Kk (.int kd (max a b)) H := by simp [aBuiltin, aMaxMin]
@[go_sem] theorem blt_min {ts : List TypeId} {a b : Int} {kd : IntKind} : aBuiltin P H .min ts [.int kd a, .int kd b] Kk = Kk (.int kd (min a b)) H := by simp [aBuiltin, aMaxMin]
@[go_sem] theorem blt_append {t1 t2 : TypeId} {s x : Value} : aBuiltin P H .append [t1, t2] [s, x] Kk = aAppend P H t1 t2 s x Kk := (rfl)

/-- An element of a slice: its size from the slice's type. -/
def elemSz (P : Program) (t : TypeId) : Option Nat := match P.underlying t with
  | some (.slice e) => tSz P e
  | _ => none
def idxK (sz : Option Nat) (id off len : Nat) (n : Int) (K : Value → Prop) : Prop := match sz with
  | some sz => 0 ≤ n ∧ n < len ∧ K (.pointer (some ⟨id, off + n.toNat * sz, none⟩))
  | none => False
@[go_sem] theorem idxK_some {sz id off len : Nat} {n : Int} : idxK (some sz) id off len n K = (0 ≤ n ∧ n < len ∧ K (.pointer (some ⟨id, off + n.toNat * sz, none⟩))) := (rfl)
@[go_sem] theorem indexAddr_slice {id off len cap : Nat} {kd : IntKind} {n : Int} (h : isSliceD (P.underlying t) = true) : aIndexAddr P t (.slice (some ⟨id, off, none⟩) len cap) (.int kd n) K = idxK (elemSz P t) id off len n K := by
  rcases hu : P.underlying t with _ | D
  · rw [hu] at h; cases h
  · rw [hu] at h
    cases D <;> first | (cases h; done) | skip
    rename_i e
    simp only [aIndexAddr, hu, elemSz, idxK]
    cases tSz P e <;> rfl
@[go_sem] theorem index_str {s : ByteArray} {kd : IntKind} {n : Int} (h : isStrD (P.underlying t) = true) : aIndex P t (.string s) (.int kd n) K = (0 ≤ n ∧ n < s.size ∧ K (.int .u8 (byteAt s n))) := by
  rcases hu : P.underlying t with _ | D
  · rw [hu] at h; cases h
  · rw [hu] at h; cases D <;> first | (cases h; done) | simp [aIndex, hu]
def ssK (s : ByteArray) (K : Value → Prop) : Option Int → Option Int → Prop
  | some l, some h => 0 ≤ l ∧ l ≤ h ∧ h ≤ s.size ∧ K (.string (s.extract l.toNat h.toNat))
  | _, _ => False
@[go_sem] theorem ssK_some {s : ByteArray} {l h : Int} : ssK s K (some l) (some h) = (0 ≤ l ∧ l ≤ h ∧ h ≤ s.size ∧ K (.string (s.extract l.toNat h.toNat))) := (rfl)
@[go_sem] theorem slice_str {s : ByteArray} {lo hi : Option Value} (h : isStrD (P.underlying t) = true) : aSlice P H t (.string s) lo hi none K = ssK s K (intOr 0 lo) (intOr s.size hi) := by
  rcases hu : P.underlying t with _ | D
  · rw [hu] at h; cases h
  · rw [hu] at h
    cases D <;> first | (cases h; done) | skip
    simp only [aSlice, hu, ssK, true_and]
    rfl
@[go_sem] theorem intOr_none {d : Int} : intOr d none = some d := (rfl)
@[go_sem] theorem intOr_some {d n : Int} {kd : IntKind} : intOr d (some (.int kd n)) = some n := (rfl)
def slK (sz : Option Nat) (o : AObj) (id off len cap : Nat) (K : Value → Prop) : Option Int → Option Int → Prop
  | some l, some h => o.esz? = sz ∧ sz.isSome = true ∧ 0 ≤ l ∧ l ≤ h ∧ h ≤ len ∧ K (.slice (some ⟨id, off + l.toNat * sz.getD 0, none⟩) (h - l).toNat (if cap < unk then cap - l.toNat else cap))
  | _, _ => False
@[go_sem] theorem slK_some {sz id off len cap : Nat} {o : AObj} {l h : Int} : slK (some sz) o id off len cap K (some l) (some h) = (o.esz? = some sz ∧ 0 ≤ l ∧ l ≤ h ∧ h ≤ len ∧ K (.slice (some ⟨id, off + l.toNat * sz, none⟩) (h - l).toNat (if cap < unk then cap - l.toNat else cap))) := by simp [slK]
@[go_sem] theorem slice_slice {id off len cap : Nat} {lo hi : Option Value} (h : isSliceD (P.underlying t) = true) : aSlice P H t (.slice (some ⟨id, off, none⟩) len cap) lo hi none K = slK (elemSz P t) (H.get id) id off len cap K (intOr 0 lo) (intOr len hi) := by
  rcases hu : P.underlying t with _ | D
  · rw [hu] at h; cases h
  · rw [hu] at h
    cases D <;> first | (cases h; done) | skip
    rename_i e
    simp only [aSlice, hu, elemSz, slK]
    rcases tSz P e with _ | sz <;> rcases intOr 0 lo with _ | l <;> rcases intOr (len : Int) hi with _ | h' <;> simp
theorem unk_lt {n : Nat} (h : n < 9223372036854775808) : n < unk := h
@[go_sem] theorem unk_self : (unk < unk) = False := by simp

def newsK (cs : Option (List Value)) (sz off n : Nat) (K : List Value → Nat → Prop) : Prop := match cs with
  | some cs => off + n * sz ≤ cs.length ∧ K ((cs.drop off).take (n * sz)) n
  | none => False
/-- An append: what is appended, and to what. -/
def appK (P : Program) (H : AHeap) (sz by_ : Nat) (Kk : Value → AHeap → Prop) (s : Value) (nc : List Value) (n : Nat) : Prop := match s with
    | .slice none 0 0 => n * by_ ≤ 140737488355328 ∧ n ≤ 9223372036854775807 ∧ if n = 0 then Kk (.slice none 0 0) H else Kk (.slice (some ⟨H.size, 0, none⟩) n unk) (H.push (.rw sz nc))
    | .slice (some ⟨id, off, none⟩) len cap => (len + n) * by_ ≤ 140737488355328 ∧ len + n ≤ 9223372036854775807 ∧
      if n = 0 then Kk (.slice (some ⟨id, off, none⟩) len cap) H
      else if cap < unk then
        if len + n ≤ cap then match H.get id with
          | .rw e cs => nc.all (·.oneCell') = true ∧ off + (len + n) * sz ≤ cs.length ∧ Kk (.slice (some ⟨id, off, none⟩) (len + n) cap) (H.set id (.rw e (splice cs (off + len * sz) nc)))
          | _ => False
        else match (H.get id).cells? with
          | some cs => off + len * sz ≤ cs.length ∧ Kk (.slice (some ⟨H.size, 0, none⟩) (len + n) unk) (H.push (.rw sz ((cs.drop off).take (len * sz) ++ nc)))
          | none => False
      else match H.get id with
        | .rw e cs => e = sz ∧ nc.all (·.oneCell') = true ∧ off + len * sz ≤ cs.length ∧
          Kk (.slice (some ⟨H.size, 0, none⟩) (len + n) unk) ((H.set id .dead).push (.rw sz ((cs.drop off).take (len * sz) ++ nc)))
        | _ => False
    | _ => False
theorem aAppend_eq {t1 t2 : TypeId} {s x : Value} {sz by_ : Nat} (h : tApp P t1 = some (sz, by_)) : aAppend P H t1 t2 s x Kk = aNews P H t2 sz x (appK P H sz by_ Kk s) := by
  unfold aAppend; rw [h]; rfl
def appK' (P : Program) (H : AHeap) (x : Option (Nat × Nat)) (t2 : TypeId) (Kk : Value → AHeap → Prop) (s v : Value) : Prop := match x with
  | some (sz, by_) => aNews P H t2 sz v (appK P H sz by_ Kk s)
  | none => False
@[go_sem] theorem aAppend_to {t1 t2 : TypeId} {s x : Value} : aAppend P H t1 t2 s x Kk = appK' P H (tApp P t1) t2 Kk s x := by
  unfold aAppend appK'; rcases tApp P t1 with _ | ⟨sz, b⟩ <;> rfl
@[go_sem] theorem appK'_some {sz by_ : Nat} {t2 : TypeId} {s v : Value} : appK' P H (some (sz, by_)) t2 Kk s v = aNews P H t2 sz v (appK P H sz by_ Kk s) := (rfl)
@[go_sem] theorem news_slice {t2 : TypeId} {sz id off n cap : Nat} {KN : List Value → Nat → Prop} (h : isSliceD (P.underlying t2) = true) : aNews P H t2 sz (.slice (some ⟨id, off, none⟩) n cap) KN = newsK (H.get id).cells? sz off n KN := by
  rcases hu : P.underlying t2 with _ | D
  · rw [hu] at h; cases h
  · rw [hu] at h
    cases D <;> first | (cases h; done) | skip
    simp only [aNews, hu]
    unfold newsK
    cases (H.get id).cells? <;> rfl
@[go_sem] theorem newsK_some {cs : List Value} {sz off n : Nat} {KN : List Value → Nat → Prop} : newsK (some cs) sz off n KN = (off + n * sz ≤ cs.length ∧ KN ((cs.drop off).take (n * sz)) n) := (rfl)
@[go_sem] theorem news_str {t2 : TypeId} {sz : Nat} {s : ByteArray} {KN : List Value → Nat → Prop} (h : isStrD (P.underlying t2) = true) : aNews P H t2 sz (.string s) KN = (sz = 1 ∧ KN (s.data.toList.map fun b => .int .u8 b.toNat) s.size) := by
  rcases hu : P.underlying t2 with _ | D
  · rw [hu] at h; cases h
  · rw [hu] at h; cases D <;> first | (cases h; done) | simp [aNews, hu]
/-- To a nil slice. -/
theorem app_nil {sz by_ n : Nat} {nc : List Value} (h1 : n * by_ ≤ 140737488355328) (h2 : n ≤ 9223372036854775807) (h0 : 0 < n) (hk : Kk (.slice (some ⟨H.size, 0, none⟩) n unk) (H.push (.rw sz nc))) :
    appK P H sz by_ Kk (.slice none 0 0) nc n := ⟨h1, h2, by rw [if_neg (by omega)]; exact hk⟩
/-- To a slice whose room is known and full (a literal). -/
theorem app_full {sz by_ n id off len cap : Nat} {nc cs : List Value} (hc : (H.get id).cells? = some cs) (hcap : cap < len + n) (hu : cap < unk) (h1 : (len + n) * by_ ≤ 140737488355328) (h2 : len + n ≤ 9223372036854775807) (h0 : 0 < n) (h3 : off + len * sz ≤ cs.length)
    (hk : Kk (.slice (some ⟨H.size, 0, none⟩) (len + n) unk) (H.push (.rw sz ((cs.drop off).take (len * sz) ++ nc)))) : appK P H sz by_ Kk (.slice (some ⟨id, off, none⟩) len cap) nc n :=
  ⟨h1, h2, by rw [if_neg (by omega), if_pos hu, if_neg (by omega), hc]; exact ⟨h3, hk⟩⟩
/-- To a slice that is the outcome of an append: the elder row is told no more. -/
theorem app_own {sz by_ n id off len : Nat} {nc cs : List Value} (hc : H.get id = .rw sz cs) (h1 : (len + n) * by_ ≤ 140737488355328) (h2 : len + n ≤ 9223372036854775807) (h0 : 0 < n) (hn : nc.all (·.oneCell') = true) (h3 : off + len * sz ≤ cs.length)
    (hk : Kk (.slice (some ⟨H.size, 0, none⟩) (len + n) unk) ((H.set id .dead).push (.rw sz ((cs.drop off).take (len * sz) ++ nc)))) : appK P H sz by_ Kk (.slice (some ⟨id, off, none⟩) len unk) nc n :=
  ⟨h1, h2, by rw [if_neg (by omega), if_neg (by simp)]; simp only [hc]; exact ⟨trivial, hn, h3, hk⟩⟩
/-- Nothing is appended. -/
theorem app_none {sz by_ id off len cap : Nat} {nc : List Value} (h1 : (len + 0) * by_ ≤ 140737488355328) (h2 : len + 0 ≤ 9223372036854775807) (hk : Kk (.slice (some ⟨id, off, none⟩) len cap) H) : appK P H sz by_ Kk (.slice (some ⟨id, off, none⟩) len cap) nc 0 :=
  ⟨h1, h2, by rw [if_pos rfl]; exact hk⟩

def keyD (P : Program) (t : TypeId) : Option TypeDesc := match P.underlying t with
  | some (.map kt _) => P.underlying kt
  | _ => none
def elemZ (P : Program) (t : TypeId) : Option Value := match P.underlying t with
  | some (.map _ et) => tZero P et
  | _ => none
/-- Looking up, where the entries are known as a list of keys and values. -/
theorem lookup_by {t : TypeId} {id : Nat} {x : Value} {ok : Bool} {D : TypeDesc} {z : Value} {es : List (Value × Value)} {r : Option (Nat × Value)} (hk : keyD P t = some D) (hz : elemZ P t = some z) (hg : H.get id = .mp es) (hs : scalarD D = true) (hp : plainV z = true)
    (hx : plainCell x = true) (hf : mfind D x es 0 = some r) (h : K (match r with | some (_, v) => if ok then .tuple #[v, .bool true] else v | none => if ok then .tuple #[z, .bool false] else z)) : aLookup P H t (.map (some id)) x ok K := by
  unfold keyD at hk; unfold elemZ at hz
  unfold aLookup
  rcases hu : P.underlying t with _ | D'
  · rw [hu] at hk; cases hk
  · rw [hu] at hk hz
    cases D' <;> first | (cases hk; done) | skip
    simp only at hk hz
    simp only [hk, hz, hg, hf]
    refine ⟨hs, hp, hx, ?_⟩
    rcases r with _ | ⟨i, v⟩
    · exact h
    · exact h
theorem update_new {t : TypeId} {id : Nat} {x v : Value} {D : TypeDesc} {es : List (Value × Value)} (hk : keyD P t = some D) (hg : H.get id = .mp es) (hs : scalarD D = true) (hx : plainCell x = true) (hf : mfind D x es 0 = some none)
    (h : KH (H.set id (.mp (es ++ [(x, v)])))) : aMapUpdate P H t (.map (some id)) x v KH := by
  unfold keyD at hk
  unfold aMapUpdate
  rcases hu : P.underlying t with _ | D'
  · rw [hu] at hk; cases hk
  · rw [hu] at hk
    cases D' <;> first | (cases hk; done) | skip
    simp only at hk
    simp only [hk, hg, hf]
    exact ⟨hs, hx, h⟩
theorem update_old {t : TypeId} {id i : Nat} {x v u : Value} {D : TypeDesc} {es : List (Value × Value)} (hk : keyD P t = some D) (hg : H.get id = .mp es) (hs : scalarD D = true) (hx : plainCell x = true) (hf : mfind D x es 0 = some (some (i, u)))
    (h : KH (H.set id (.mp (es.set i (x, v))))) : aMapUpdate P H t (.map (some id)) x v KH := by
  unfold keyD at hk
  unfold aMapUpdate
  rcases hu : P.underlying t with _ | D'
  · rw [hu] at hk; cases hk
  · rw [hu] at hk
    cases D' <;> first | (cases hk; done) | skip
    simp only at hk
    simp only [hk, hg, hf]
    exact ⟨hs, hx, h⟩
end

attribute [go_sem] decide_true decide_false bne_self_eq_false if_true if_false true_and and_true decide_eq_true_eq Bool.true_eq_false Bool.false_eq_true size_push size_set Bool.not_true Bool.not_false Bool.not_eq_true' decide_eq_false_iff_not beq_iff_eq ne_eq not_false_eq_true not_true_eq_false Nat.zero_add Nat.add_zero Nat.mul_one Nat.one_mul and_self
attribute [go_sem] List.getElem?_cons_zero List.getElem?_cons_succ beq_self_eq_true Bool.not_not Bool.true_and Bool.and_true Bool.false_and Bool.and_false Bool.true_or Bool.or_true Bool.false_or Bool.or_false Bool.not_true Bool.not_false
@[go_sem] theorem beq_tt (b : Bool) : (b == true) = b := by cases b <;> rfl
@[go_sem] theorem beq_ff (b : Bool) : (b == false) = !b := by cases b <;> rfl
/-- The results of a function. -/
def outR (P : Program) (σ : Slots) (H : AHeap) (rs : List ResultVar) (acc : List Value) (Kk : Value → AHeap → Prop) : Prop := aRes P σ H rs fun vs => Kk (packed (acc ++ vs)) H
section
variable {acc : List Value} {rs : List ResultVar} {Kk : Value → AHeap → Prop} {t : Tmp}
@[go_sem] theorem outR_nil : outR P σ H [] acc Kk = Kk (packed acc) H := by simp [outR, aRes]
@[go_sem] theorem outR_tmp : outR P σ H (.tmp t :: rs) acc Kk = outR P σ H rs (acc ++ [σ t]) Kk := by simp [outR, aRes]
def outL (P : Program) (σ : Slots) (H : AHeap) (rs : List ResultVar) (acc : List Value) (Kk : Value → AHeap → Prop) : Value → Prop := fun v => outR P σ H rs (acc ++ [v]) Kk
@[go_sem] theorem outL_app {v : Value} : outL P σ H rs acc Kk v = outR P σ H rs (acc ++ [v]) Kk := (rfl)
@[go_sem] theorem outR_cell {a : Tmp} {t : TypeId} : outR P σ H (.cell a t :: rs) acc Kk = aLoad P H t (σ a) (outL P σ H rs acc Kk) := by
  have e : (outL P σ H rs acc Kk) = fun v => aRes P σ H rs fun vs => Kk (packed (acc ++ v :: vs)) H := by
    funext v; simp [outL, outR]
  rw [e]; rfl
@[go_sem] theorem packed_one {v : Value} : packed [v] = v := (rfl)
@[go_sem] theorem packed_none : packed [] = .tuple #[] := (rfl)
@[go_sem] theorem packed_two {v u : Value} {vs : List Value} : packed (v :: u :: vs) = .tuple (v :: u :: vs).toArray := (rfl)
def outQ (P : Program) (rs : List ResultVar) (Kk : Value → AHeap → Prop) : Exit → Slots → AHeap → Prop
  | .normal, σ, H => outR P σ H rs [] Kk
  | .ret, σ, H => outR P σ H rs [] Kk
  | _, _, _ => False
@[go_sem] theorem outQ_ret : outQ P rs Kk .ret σ H = outR P σ H rs [] Kk := (rfl)
@[go_sem] theorem outQ_normal : outQ P rs Kk .normal σ H = outR P σ H rs [] Kk := (rfl)
end
theorem aRes_mono {σ : Slots} {H : AHeap} : ∀ (rs : List ResultVar) (K K' : List Value → Prop), (∀ vs, K vs → K' vs) → aRes P σ H rs K → aRes P σ H rs K'
  | [], _, _, hk, h => hk _ h
  | .tmp t :: r, K, K', hk, h => aRes_mono r _ _ (fun vs h => hk _ h) h
  | .cell a t :: r, K, K', hk, h => by
    simp only [aRes] at h ⊢
    unfold aLoad at h ⊢
    split at h
    · rename_i id off e'
      rcases hx : tVar P t with _ | ⟨n, b⟩ <;> rcases hc : (H.get id).cells? with _ | cs <;> simp only [hx, hc] at h ⊢ <;> try exact h.elim
      cases b <;> simp only [cellsAt] at h ⊢ <;> exact ⟨h.1, aRes_mono r _ _ (fun vs h => hk _ h) h.2⟩
    · exact h.elim
theorem aRes_fix {σ : Slots} {H : AHeap} : ∀ (rs : List ResultVar) (K : List Value → Prop), aRes P σ H rs K → ∃ vs, K vs ∧ aRes P σ H rs (fun us => us = vs)
  | [], K, h => ⟨[], h, rfl⟩
  | .tmp t :: r, K, h => by
    simp only [aRes] at h
    obtain ⟨vs, h1, h2⟩ := aRes_fix r _ h
    refine ⟨σ t :: vs, h1, ?_⟩
    simp only [aRes, List.cons.injEq, true_and]
    exact h2
  | .cell a t :: r, K, h => by
    simp only [aRes] at h
    obtain ⟨v, h1, h2⟩ := aLoad_fix h
    obtain ⟨vs, h3, h4⟩ := aRes_fix r _ h1
    refine ⟨v :: vs, h3, ?_⟩
    simp only [aRes]
    have e : (fun u => aRes P σ H r fun us => u :: us = v :: vs) = fun u => aRes P σ H r fun us => u = v ∧ us = vs := by
      funext u; congr 1; funext us; simp
    rw [e]
    obtain ⟨v2, h5, h6⟩ := aLoad_fix h2
    have : ∀ (K : Value → Prop), K v → aLoad P H t (σ a) K := by
      intro K hK
      unfold aLoad at h2 ⊢
      split at h2
      · rename_i id off e'
        rcases hx : tVar P t with _ | x <;> rcases hc : (H.get id).cells? with _ | cs <;> simp only [hx, hc] at h2 <;> try exact h2.elim
        rcases x with ⟨n, b⟩
        simp only [hx, hc]
        cases b <;> simp only [cellsAt] at h2 ⊢ <;> exact ⟨h2.1, by rw [h2.2]; exact hK⟩
      · exact h2.elim
    refine this _ ?_
    simpa using h4
/-- A contract out of a walk. -/
theorem call_go {f : FuncId} {fn : Func} {c : Code} {args : Array Value} {rs : List ResultVar} {Kk : Value → AHeap → Prop} (fl : List Nat) (hf : P.funcs[f]? = some fn) (hb : fn.body = some c) (hrs : fn.results.toList = rs) (hm : P.follows .mixedOrders = true)
    (hok : fnOk P fl fn args.size = true) (h : run P fl (outQ P rs Kk) c [] (argSlots args) H) : callA P f args H Kk := by
  have hok' := hok
  unfold fnOk at hok
  rw [hb] at hok
  simp only [Bool.and_eq_true, decide_eq_true_eq, Bool.not_eq_true'] at hok
  obtain ⟨⟨⟨h1, h2⟩, h3⟩, h4⟩ := hok
  obtain ⟨e, σ', H1, hq, ext, hs⟩ := aCode_sound hm c _ _ _ h4 h
  have hres : aRes P σ' H1 fn.results.toList (fun vs => Kk (packed vs) H1) ∧ (e = .normal ∨ e = .ret) := by
    rw [hrs]
    cases e <;> first | exact hq.elim | exact ⟨hq, by simp⟩
  obtain ⟨hres, he⟩ := hres
  obtain ⟨vs, hK, hres⟩ := aRes_fix _ _ hres
  refine ⟨packed vs, H1, ?_, hK⟩
  have hres2 : aRes P σ' H1 fn.results.toList (fun us => packed us = packed vs) := aRes_mono _ _ _ (fun us e => by rw [e]) hres
  refine ⟨ext, fun m w args' hr hfree hargs => ?_⟩
  have hcf : (callFunc f args').run P w = .ok (.enter f args') w := by
    unfold callFunc
    simp only [Sem.run_bind, run_program, Result.andThen_ok, hf, h3, hb]
    rfl
  unfold Invokes
  rw [hcf]
  refine calls_of_wp hf hb (wp_mono (hs m w _ hr hfree ⟨?_, fun t ht => ?_⟩) fun e' a' w' hp => ?_)
  · have := hargs.1
    simp; omega
  · have hsz := hargs.1
    simp only [argSlots, Array.getD_eq_getD_getElem?]
    by_cases hta : t < args.size
    · have := hargs.2 t hta
      simp only [Array.getD_eq_getD_getElem?] at this
      rw [Array.getElem?_append_left (by omega)]
      exact this
    · rw [Array.getElem?_append_right (by omega), Array.getElem?_eq_none (by omega : args.size ≤ t)]
      rw [Array.getElem?_replicate, if_pos (by omega)]
      exact VRel.undef m
  · obtain ⟨rfl, hd, m', ht', hst⟩ := hp
    obtain ⟨v', h5, h6⟩ := results_sound h2 hres2 hst.rel ht'
    rcases he with rfl | rfl
    · exact ⟨hd, v', h5, m', h6, hst⟩
    · exact ⟨hd, v', h5, m', h6, hst⟩
theorem callA.mono {f : FuncId} {args : Array Value} {K K' : Value → AHeap → Prop} (h : callA P f args H K) (hk : ∀ r H', K r H' → K' r H') : callA P f args H K' := by
  obtain ⟨r, H', h1, h2⟩ := h
  exact ⟨r, H', h1, hk r H' h2⟩
def loopQ (P : Program) (fl : List Nat) (Q : Exit → Slots → AHeap → Prop) (k : List K) (R : Slots → AHeap → Prop) : Exit → Slots → AHeap → Prop
  | .normal => R
  | e => leave P fl Q e k
@[go_sem] theorem loopQ_normal {R : Slots → AHeap → Prop} : loopQ P fl Q k R .normal σ H = R σ H := (rfl)
@[go_sem] theorem loopQ_exit {R : Slots → AHeap → Prop} {id : Nat} : loopQ P fl Q k R (.exit id) σ H = leave P fl Q (.exit id) k σ H := (rfl)
@[go_sem] theorem loopQ_ret {R : Slots → AHeap → Prop} : loopQ P fl Q k R .ret σ H = leave P fl Q .ret k σ H := (rfl)
/-- A loop on the stack, told without a binder. -/
theorem looped {c : Code} (I : Nat → Slots → AHeap → Prop) (n : Nat) (h : I n σ H)
    (step : ∀ n σ H, I n σ H → ∀ R : Slots → AHeap → Prop, (∀ n', n' < n → ∀ σ H, I n' σ H → R σ H) → run P fl (loopQ P fl Q k R) c [] σ H) : run P fl Q (.loop c) k σ H := by
  refine run_loop I n h fun n σ H hi R ih => ?_
  have e := step n σ H hi R ih
  have e2 : loopQ P fl Q k R = (fun e σ' H' => match e with | .normal => R σ' H' | e => leave P fl Q e k σ' H') := by
    funext e σ' H'
    cases e <;> rfl
  rw [e2] at e
  exact e
theorem get_push_eq {o : AObj} {id : Nat} (h : id = H.size) : (H.push o).get id = o := by rw [h]; exact get_push_same H o
theorem get_set_eq {o : AObj} {id id' : Nat} (h : id = id') (hl : id < H.size) : (H.set id o).get id' = o := by rw [← h]; exact get_set_same H id o hl
theorem wrap_id {n : Int} (h1 : -9223372036854775808 ≤ n) (h2 : n ≤ 9223372036854775807) : IntKind.i64.wrap n = n := by
  simp only [IntKind.wrap, IntKind.bits, IntKind.signed]; simp; omega


end Go.Ah

/- Reading rows of cells over the abstract heap. -/
namespace Go.Ah
variable {P : Program} {H H' : AHeap}

/-- The address of the cell k places behind a slice's first. -/
def elemPtr (v : Value) (k : Nat) : Value := match v with
  | .slice (some ⟨id, off, none⟩) _ _ => .pointer (some ⟨id, off + k, none⟩)
  | _ => undef
def big : Nat := 9223372036854775808
/-- v is a slice of n elements, of sz cells each, that hold css. -/
def Row (H : AHeap) (sz : Nat) (v : Value) (n : Nat) (css : List Value) : Prop :=
  n < big ∧ css.length = n * sz ∧ ((v = .slice none 0 0 ∧ n = 0) ∨
    ∃ id off cap cs, v = .slice (some ⟨id, off, none⟩) n cap ∧ id < H.size ∧ (H.get id).cells? = some cs ∧ (H.get id).esz? = some sz ∧ off + n * sz ≤ cs.length ∧ (cs.drop off).take (n * sz) = css)
theorem Row.keep {sz n : Nat} {v : Value} {css : List Value} (h : Row H sz v n css) (hk : AKeep H H') : Row H' sz v n css := by
  obtain ⟨h1, h2, h3⟩ := h
  refine ⟨h1, h2, ?_⟩
  rcases h3 with h3 | ⟨id, off, cap, cs, e, hl, hc, he, hle, ht⟩
  · exact .inl h3
  · have := hk.get id hl
    refine .inr ⟨id, off, cap, cs, e, Nat.lt_of_lt_of_le hl hk.size, by rw [this]; exact hc, by rw [this]; exact he, hle, ht⟩
theorem Row.nil {sz : Nat} : Row H sz (.slice none 0 0) 0 [] := ⟨by unfold big; omega, by simp, .inl ⟨rfl, rfl⟩⟩
section
variable {sz n : Nat} {v : Value} {css : List Value} {t : TypeId}
theorem row_len {Kk : Value → AHeap → Prop} (h : Row H sz v n css) (hd : isSliceD (P.underlying t) = true) {G : AHeap} : aBuiltin P G .len [t] [v] Kk = Kk (.int .i64 n) G := by
  obtain ⟨h1, h2, h3⟩ := h
  rcases h3 with ⟨rfl, rfl⟩ | ⟨id, off, cap, cs, rfl, hl, hc, he, hle, ht⟩ <;> exact len_slice hd
theorem row_index {K : Value → Prop} {kd : IntKind} {i : Int} (h : Row H sz v n css) (hs : elemSz P t = some sz) : aIndexAddr P t v (.int kd i) K = (0 ≤ i ∧ i < n ∧ K (elemPtr v (i.toNat * sz))) := by
  have hd : isSliceD (P.underlying t) = true := by
    unfold elemSz at hs
    rcases hu : P.underlying t with _ | D
    · rw [hu] at hs; cases hs
    · rw [hu] at hs; cases D <;> first | (cases hs; done) | rfl
  obtain ⟨h1, h2, h3⟩ := h
  rcases h3 with ⟨rfl, rfl⟩ | ⟨id, off, cap, cs, rfl, hl, hc, he, hle, ht⟩
  · have : ¬ (0 ≤ i ∧ i < ((0 : Nat) : Int) ∧ K (elemPtr (.slice none 0 0) (i.toNat * sz))) := by omega
    rw [eq_false this]
    unfold aIndexAddr
    rcases hu : P.underlying t with _ | D
    · rfl
    · cases D <;> rfl
  · rw [indexAddr_slice hd, hs]; rfl
theorem row_load {K : Value → Prop} {k m : Nat} (h : Row H sz v n css) (ht : tVar P t = some (m, false)) (hk : k < css.length) : aLoad P H t (elemPtr v k) K = K (css.getD k undef) := by
  obtain ⟨h1, h2, h3⟩ := h
  rcases h3 with ⟨rfl, rfl⟩ | ⟨id, off, cap, cs, rfl, hl, hc, he, hle, htk⟩
  · omega
  · have e1 : off + k < cs.length := by omega
    show aLoad P H t (.pointer (some ⟨id, off + k, none⟩)) K = _
    rw [aLoad_ptr, ht, hc]
    simp only [go_sem]
    have e2 : cs.getD (off + k) undef = css.getD k undef := by
      rw [← htk]
      simp only [List.getD_eq_getElem?_getD]
      rw [List.getElem?_take_of_lt (by omega), List.getElem?_drop]
    rw [e2]
    exact propext ⟨fun h => h.2, fun h => ⟨e1, h⟩⟩
theorem row_loadA {K : Value → Prop} {k m : Nat} (h : Row H sz v n css) (ht : tVar P t = some (m, true)) (h0 : 0 < m) (hk : k + m ≤ css.length) : aLoad P H t (elemPtr v k) K = K (.agg ((css.drop k).take m).toArray) := by
  obtain ⟨h1, h2, h3⟩ := h
  rcases h3 with ⟨rfl, rfl⟩ | ⟨id, off, cap, cs, rfl, hl, hc, he, hle, htk⟩
  · omega
  · have e1 : off + k + m ≤ cs.length := by omega
    show aLoad P H t (.pointer (some ⟨id, off + k, none⟩)) K = _
    rw [aLoad_ptr, ht, hc]
    simp only [go_sem]
    have e2 : (cs.drop (off + k)).take m = (css.drop k).take m := by
      rw [← htk, List.drop_take, List.take_take, List.drop_drop, Nat.min_eq_left (by omega)]
    rw [e2]
    exact propext ⟨fun h => h.2, fun h => ⟨e1, h⟩⟩
end

/-- An element, the word that simp leaves alone. -/
def nth {α : Type} (xs : List α) (i : Nat) (d : α) : α := xs.getD i d
theorem nth_eq {α : Type} (xs : List α) (i : Nat) (d : α) : nth xs i d = xs.getD i d := (rfl)
/-- A slice of ints. -/
def Ints (H : AHeap) (v : Value) (xs : List Int) : Prop := Row H 1 v xs.length (xs.map (Value.int .i64))
theorem Ints.keep {v : Value} {xs : List Int} (h : Ints H v xs) (hk : AKeep H H') : Ints H' v xs := Row.keep h hk
theorem ints_len {v : Value} {xs : List Int} {t : TypeId} {Kk : Value → AHeap → Prop} (h : Ints H v xs) (hd : isSliceD (P.underlying t) = true) {G : AHeap} : aBuiltin P G .len [t] [v] Kk = Kk (.int .i64 xs.length) G := row_len h hd
theorem ints_index {v : Value} {xs : List Int} {t : TypeId} {K : Value → Prop} {kd : IntKind} {i : Nat} (h : Ints H v xs) (hs : elemSz P t = some 1) (hi : i < xs.length) : aIndexAddr P t v (.int kd i) K = K (elemPtr v i) := by
  rw [row_index h hs]
  simp; omega
theorem ints_load {v : Value} {xs : List Int} {t : TypeId} {K : Value → Prop} {i : Nat} (h : Ints H v xs) (ht : tVar P t = some (1, false)) (hi : i < xs.length) : aLoad P H t (elemPtr v i) K = K (.int .i64 (nth xs i 0)) := by
  rw [row_load h ht (by simpa using hi)]
  simp [nth, List.getD_eq_getElem?_getD, hi]
theorem Ints.lt {v : Value} {xs : List Int} (h : Ints H v xs) : xs.length < big := h.1
theorem Row.slice {sz n : Nat} {v : Value} {css : List Value} (h : Row H sz v n css) : ∃ a m c, v = .slice a m c := by
  obtain ⟨_, _, h3⟩ := h
  rcases h3 with ⟨rfl, _⟩ | ⟨_, _, _, _, rfl, _⟩ <;> exact ⟨_, _, _, rfl⟩
theorem Ints.slice {v : Value} {xs : List Int} (h : Ints H v xs) : ∃ a m c, v = .slice a m c := Row.slice h
/-- A slice of slices of ints. -/
def IntsS (H : AHeap) (v : Value) (vs : List Value) (xss : List (List Int)) : Prop := Row H 1 v vs.length vs ∧ vs.length = xss.length ∧ ∀ i, i < xss.length → Ints H (nth vs i undef) (nth xss i [])
theorem IntsS.keep {v : Value} {vs : List Value} {xss : List (List Int)} (h : IntsS H v vs xss) (hk : AKeep H H') : IntsS H' v vs xss := ⟨h.1.keep hk, h.2.1, fun i hi => (h.2.2 i hi).keep hk⟩
theorem intss_len {v : Value} {vs : List Value} {xss : List (List Int)} {t : TypeId} {Kk : Value → AHeap → Prop} (h : IntsS H v vs xss) (hd : isSliceD (P.underlying t) = true) {G : AHeap} : aBuiltin P G .len [t] [v] Kk = Kk (.int .i64 xss.length) G := by rw [← h.2.1]; exact row_len h.1 hd
theorem intss_index {v : Value} {vs : List Value} {xss : List (List Int)} {t : TypeId} {K : Value → Prop} {kd : IntKind} {i : Nat} (h : IntsS H v vs xss) (hs : elemSz P t = some 1) (hi : i < xss.length) : aIndexAddr P t v (.int kd i) K = K (elemPtr v i) := by
  rw [row_index h.1 hs]
  have := h.2.1
  simp; omega
theorem intss_load {v : Value} {vs : List Value} {xss : List (List Int)} {t : TypeId} {K : Value → Prop} {i : Nat} (h : IntsS H v vs xss) (ht : tVar P t = some (1, false)) (hi : i < xss.length) : aLoad P H t (elemPtr v i) K = K (nth vs i undef) :=
  row_load h.1 ht (by rw [h.2.1]; exact hi)

theorem IntsS.lt {v : Value} {vs : List Value} {xss : List (List Int)} (h : IntsS H v vs xss) : xss.length < big := by rw [← h.2.1]; exact h.1.1
theorem drop_getD {α : Type} (xs : List α) (i : Nat) (d : α) (h : i < xs.length) : xs.drop i = nth xs i d :: xs.drop (i + 1) := by
  rw [List.drop_eq_getElem_cons h]
  congr 1
  simp [nth, List.getD_eq_getElem?_getD, h]
theorem push_set {o o' : AObj} : (H.push o).set H.size o' = H.push o' := by
  simp [AHeap.push, AHeap.set, AHeap.size]
theorem push_set_ne {o o' : AObj} {id : Nat} (h : id < H.size) : (H.push o).set id o' = (H.set id o').push o := by
  simp [AHeap.push, AHeap.set, AHeap.size] at h ⊢
  rw [List.set_append_left _ _ h]
@[go_sem] theorem push_set1 {o o1 o' : AObj} : ((H.push o).push o1).set (H.size + 1) o' = (H.push o).push o' := by
  have := push_set (H := H.push o) (o := o1) (o' := o'); rwa [size_push] at this
@[go_sem] theorem get_push_last {o : AObj} : (H.push o).get H.size = o := get_push_same H o
@[go_sem] theorem get_push_1 {o o1 : AObj} : ((H.push o).push o1).get H.size = o := by rw [get_push_ne _ _ _ (by rw [size_push]; omega)]; exact get_push_same H o
@[go_sem] theorem get_push_last1 {o o1 : AObj} : ((H.push o).push o1).get (H.size + 1) = o1 := by have := get_push_same (H.push o) o1; rwa [size_push] at this
/-- A set of ints, as a map to true. -/
def seenM (xs : List Int) : List (Value × Value) := xs.map fun n => (.int .i64 n, .bool true)
theorem seen_find (xs : List Int) (n : Int) (i : Nat) : ∃ j, mfind (.int .i64) (.int .i64 n) (seenM xs) i = some (if n ∈ xs then some (j, .bool true) else none) := by
  induction xs generalizing i with
  | nil => exact ⟨0, by simp [seenM, mfind]⟩
  | cons x r ih =>
    obtain ⟨j, ih⟩ := ih (i + 1)
    by_cases h : n = x
    · refine ⟨i, ?_⟩
      simp [seenM, mfind, Instr.sameNow, h]
    · refine ⟨j, ?_⟩
      have : (n ∈ x :: r) = (n ∈ r) := by simp [h]
      simp only [seenM, List.map_cons, mfind, Instr.sameNow]
      simp only [this]
      have h2 : (n == x) = false := by simp [h]
      simp only [h2]
      exact ih
theorem seen_lookup {t : TypeId} {id : Nat} {n : Int} {K : Value → Prop} {xs : List Int} (hk : keyD P t = some (.int .i64)) (hz : elemZ P t = some (.bool false)) (hg : H.get id = .mp (seenM xs)) (h : K (.bool (decide (n ∈ xs)))) :
    aLookup P H t (.map (some id)) (.int .i64 n) false K := by
  obtain ⟨j, hj⟩ := seen_find xs n 0
  by_cases hm : n ∈ xs
  · rw [if_pos hm] at hj
    exact lookup_by hk hz hg rfl rfl rfl hj (by simpa [hm] using h)
  · rw [if_neg hm] at hj
    exact lookup_by hk hz hg rfl rfl rfl hj (by simpa [hm] using h)
theorem seen_update {t : TypeId} {id : Nat} {n : Int} {K : AHeap → Prop} {xs : List Int} (hk : keyD P t = some (.int .i64)) (hg : H.get id = .mp (seenM xs)) (hn : n ∉ xs) (h : K (H.set id (.mp (seenM (xs ++ [n]))))) :
    aMapUpdate P H t (.map (some id)) (.int .i64 n) (.bool true) K := by
  obtain ⟨j, hj⟩ := seen_find xs n 0
  rw [if_neg hn] at hj
  refine update_new hk hg rfl rfl hj ?_
  simpa [seenM] using h
theorem wrap_succ {i : Nat} (h : i + 1 < big) : IntKind.i64.wrap ((i : Int) + 1) = ((i + 1 : Nat) : Int) := by
  unfold big at h
  rw [wrap_id (by omega) (by omega)]; omega
theorem keep2 (o o1 : AObj) : AKeep H ((H.push o).push o1) := (AKeep.push _ _).trans (AKeep.push _ _)
theorem dec_lt {i n : Nat} {b : Bool} (h : decide ((i : Int) < (n : Int)) = b) : b = true ↔ i < n := by
  subst h; simp
/-- The object that a slice lies in. -/
def idOf : Value → Option Nat
  | .slice (some ⟨id, _, none⟩) _ _ => some id
  | _ => none
theorem Row.set {sz n k : Nat} {v : Value} {css : List Value} {o : AObj} (h : Row H sz v n css) (hk : idOf v ≠ some k) : Row (H.set k o) sz v n css := by
  obtain ⟨h1, h2, h3⟩ := h
  refine ⟨h1, h2, ?_⟩
  rcases h3 with h3 | ⟨id, off, cap, cs, e, hl, hc, he, hle, ht⟩
  · exact .inl h3
  · have hne : k ≠ id := by intro e2; subst e2; subst e; exact hk rfl
    exact .inr ⟨id, off, cap, cs, e, by rw [size_set]; exact hl, by rw [get_set_ne _ _ _ _ hne]; exact hc, by rw [get_set_ne _ _ _ _ hne]; exact he, hle, ht⟩
theorem Ints.set {k : Nat} {v : Value} {xs : List Int} {o : AObj} (h : Ints H v xs) (hk : idOf v ≠ some k) : Ints (H.set k o) v xs := Row.set h hk
/-- The cells of a new row. -/
theorem row_new {id sz n cap e : Nat} {css cs : List Value} (hid : id < H.size) (hg : H.get id = .rw e cs) (he : e = sz) (hn : n < big) (hl : n * sz ≤ cs.length) (hc : cs.take (n * sz) = css) : Row H sz (.slice (some ⟨id, 0, none⟩) n cap) n css := by
  subst he
  refine ⟨hn, by rw [← hc, List.length_take]; omega, .inr ⟨id, 0, cap, cs, rfl, hid, by rw [hg]; rfl, by rw [hg]; rfl, by omega, by rw [List.drop_zero]; exact hc⟩⟩
theorem ints_new {id cap : Nat} {xs : List Int} (hid : id < H.size) (hg : H.get id = .rw 1 (xs.map (Value.int .i64))) (hn : xs.length < big) : Ints H (.slice (some ⟨id, 0, none⟩) xs.length cap) xs :=
  row_new hid hg rfl hn (by simp) (by rw [Nat.mul_one, List.take_of_length_le (by simp)])
theorem nth_ext {α : Type} {xs ys : List α} {d : α} (hl : xs.length = ys.length) (h : ∀ i, i < xs.length → nth xs i d = nth ys i d) : xs = ys := by
  refine List.ext_getElem hl fun i h1 h2 => ?_
  have := h i h1
  simpa [nth, List.getD_eq_getElem?_getD, h1, h2] using this
/-- A row written up to a place: what is written, and zeros behind it. -/
def upTo (xs : List Value) (i n : Nat) (z : Value) : List Value := xs.take i ++ List.replicate (n - i) z
theorem upTo_zero {xs : List Value} {n : Nat} {z : Value} : upTo xs 0 n z = List.replicate n z := by simp [upTo]
theorem upTo_all {xs : List Value} {n : Nat} {z : Value} (h : n = xs.length) : upTo xs n n z = xs := by subst h; simp [upTo]
theorem upTo_len {xs : List Value} {i n : Nat} {z : Value} (hi : i ≤ n) (h : n = xs.length) : (upTo xs i n z).length = n := by
  subst h; simp [upTo]; omega
theorem upTo_set {xs : List Value} {i n : Nat} {z v : Value} (h : n = xs.length) (hi : i < n) (hv : nth xs i undef = v) : (upTo xs i n z).set i v = upTo xs (i + 1) n z := by
  subst h hv
  unfold upTo
  rw [List.set_append_right _ _ (by simp; omega)]
  have e1 : xs.length - i = (xs.length - (i + 1)) + 1 := by omega
  have e2 : i - (xs.take i).length = 0 := by simp; omega
  rw [e2, e1, List.replicate_succ, List.set_cons_zero, List.take_add_one, List.append_assoc]
  simp [nth, List.getD_eq_getElem?_getD, List.getElem?_eq_getElem hi]
theorem upTo_put {xs : List Value} {i n : Nat} {z v : Value} (h : n = xs.length) (hi : i < n) : (upTo xs i n z).set i v = upTo (xs.set i v) (i + 1) n z := by
  have e : upTo xs i n z = upTo (xs.set i v) i n z := by
    unfold upTo
    congr 1
    refine List.ext_getElem (by simp) fun j h1 h2 => ?_
    simp only [List.length_take] at h1
    simp only [List.getElem_take]
    rw [List.getElem_set_ne (by omega)]
  rw [e]
  exact upTo_set (by simpa using h) hi (by simp [nth, List.getD_eq_getElem?_getD, ← h, hi])
theorem nth_set_ne {α : Type} {xs : List α} {i j : Nat} {v d : α} (h : i ≠ j) : nth (xs.set i v) j d = nth xs j d := by
  simp [nth, List.getD_eq_getElem?_getD, List.getElem?_set_ne h]
theorem nth_set_eq {α : Type} {xs : List α} {i : Nat} {v d : α} (h : i < xs.length) : nth (xs.set i v) i d = v := by
  simp [nth, List.getD_eq_getElem?_getD, h]
theorem AKeep.set {G : AHeap} {k : Nat} {o : AObj} (h : AKeep H G) (hk : H.size ≤ k) : AKeep H (G.set k o) :=
  ⟨by rw [size_set]; exact h.size, fun id hi => by rw [get_set_ne _ _ _ _ (by omega)]; exact h.get id hi⟩
theorem rep1 {v : Value} {n : Nat} : repCells [v] n = List.replicate n v := by
  induction n with
  | zero => rfl
  | succ n ih => rw [rep_succ, ih, List.replicate_succ]; rfl
theorem nth_map {xs : List Int} {i : Nat} {f : Int → Value} (h : i < xs.length) : nth (xs.map f) i undef = f (nth xs i 0) := by
  simp [nth, List.getD_eq_getElem?_getD, h]
theorem make_by {t : TypeId} {n : Nat} {sz b : Nat} {z : Value} {K : Value → AHeap → Prop} (ht : tElem P t = some (sz, b, some z)) (hb : n * b ≤ 140737488355328) (hu : n < unk) (hz : z.cells.size = sz) (h0 : 0 < sz) (hp : plainV z = true)
    (hk : K (.slice (some ⟨H.size, 0, none⟩) n n) (H.push (.rw sz (repCells z.cells.toList n)))) : aMake P H t (.int .i64 n) (.int .i64 n) K := by
  unfold aMake
  rw [ht]
  refine ⟨by omega, by omega, by omega, by omega, hz, h0, hp, ?_⟩
  rw [Int.toNat_natCast]; exact hk
theorem store_by {t : TypeId} {id off n e : Nat} {cs : List Value} {v : Value} {K : AHeap → Prop} (ht : tSz P t = some n) (hg : H.get id = .rw e cs) (h1 : v.cells.size = n) (h2 : v.cells.toList.all (·.oneCell') = true) (h3 : off + n ≤ cs.length)
    (hk : K (H.set id (.rw e (splice cs off v.cells.toList)))) : aStore P H t (.pointer (some ⟨id, off, none⟩)) v K := by
  rw [aStore_ptr, ht, hg]; exact ⟨h1, h2, h3, hk⟩
/-- Many new objects at once. -/
def pushes (H : AHeap) (l : List AObj) : AHeap := ⟨H.objs ++ l⟩
theorem push_p {o : AObj} : H.push o = pushes H [o] := (rfl)
theorem pushes_p {l r : List AObj} : pushes (pushes H l) r = pushes H (l ++ r) := by simp [pushes, List.append_assoc]
theorem size_p {l : List AObj} : (pushes H l).size = H.size + l.length := by simp [pushes, AHeap.size]
theorem get_p {l : List AObj} {k : Nat} : (pushes H l).get (H.size + k) = l.getD k .dead := by
  simp only [pushes, AHeap.get, AHeap.size, List.getD_eq_getElem?_getD]
  rw [List.getElem?_append_right (by omega), Nat.add_sub_cancel_left]
theorem get_p0 {l : List AObj} : (pushes H l).get H.size = l.getD 0 .dead := get_p (k := 0)
theorem set_p {l : List AObj} {k : Nat} {o : AObj} : (pushes H l).set (H.size + k) o = pushes H (l.set k o) := by
  simp [pushes, AHeap.set, AHeap.size, List.set_append_right]
theorem set_p0 {l : List AObj} {o : AObj} : (pushes H l).set H.size o = pushes H (l.set 0 o) := set_p (k := 0)
theorem keep_p {l : List AObj} : AKeep H (pushes H l) :=
  ⟨by rw [size_p]; omega, fun id hi => by simp only [AHeap.get, pushes, AHeap.size] at *; simp [List.getD_eq_getElem?_getD, List.getElem?_append_left hi]⟩
/-- What a slice of slices lies in is new. -/
def Above (lo : Nat) (v : Value) (vs : List Value) : Prop := (∀ id, idOf v = some id → lo ≤ id) ∧ ∀ i, i < vs.length → ∀ id, idOf (nth vs i undef) = some id → lo ≤ id
theorem Above.le {lo lo' : Nat} {v : Value} {vs : List Value} (h : Above lo v vs) (hl : lo' ≤ lo) : Above lo' v vs :=
  ⟨fun id e => Nat.le_trans hl (h.1 id e), fun i hi id e => Nat.le_trans hl (h.2 i hi id e)⟩
theorem IntsS.set {k lo : Nat} {v : Value} {vs : List Value} {xss : List (List Int)} {o : AObj} (h : IntsS H v vs xss) (ha : Above lo v vs) (hk : k < lo) : IntsS (H.set k o) v vs xss :=
  ⟨h.1.set fun e => by have := ha.1 _ e; omega, h.2.1, fun i hi => (h.2.2 i hi).set fun e => by have := ha.2 i (by rw [h.2.1]; exact hi) _ e; omega⟩
end Go.Ah

/- Operations and code are monotone; code leaves alone the slots that it does not name. -/
namespace Go.Ah
variable {P : Program}
theorem cellsAt_mono {cs : List Value} {off : Nat} {x : Nat × Bool} {K K' : Value → Prop} (hk : ∀ v, K v → K' v) (h : cellsAt cs off x K) : cellsAt cs off x K' := by
  rcases x with ⟨n, b⟩
  cases b <;> exact ⟨h.1, hk _ h.2⟩
theorem aFill_mono {place : Nat → Option (Nat × Nat)} {K K' : List Value → Prop} (hk : ∀ v, K v → K' v) : ∀ (parts : List (Nat × Value)) (cs : List Value), aFill place K parts cs → aFill place K' parts cs
  | [], cs, h => hk _ h
  | (i, v) :: r, cs, h => by
    simp only [aFill] at h ⊢
    split at h
    · exact ⟨h.1, h.2.1, aFill_mono hk r _ h.2.2⟩
    · exact h.elim
theorem aInt_mono {op : BinOp} {k : IntKind} {a b : Int} {K K' : Value → Prop} (hk : ∀ v, K v → K' v) (h : aInt op k a b K) : aInt op k a b K' := by
  cases op <;> simp only [aInt] at h ⊢ <;> first | exact h.elim | exact hk _ h | exact ⟨h.1, hk _ h.2⟩
theorem aStr_mono {op : BinOp} {a b : ByteArray} {K K' : Value → Prop} (hk : ∀ v, K v → K' v) (h : aStr op a b K) : aStr op a b K' := by
  cases op <;> simp only [aStr] at h ⊢ <;> first | exact h.elim | exact hk _ h | exact ⟨h.1, hk _ h.2⟩
theorem aEq_mono {t : TypeId} {c : Bool} {x y : Value} {K K' : Bool → Prop} (hk : ∀ v, K v → K' v) (h : aEq P t c x y K) : aEq P t c x y K' := by
  unfold aEq at h ⊢
  split at h <;> first | exact h.elim | exact hk _ h | exact ⟨h.1, hk _ h.2⟩
theorem aBin_mono {op : BinOp} {t : TypeId} {c : Bool} {x y : Value} {K K' : Value → Prop} (hk : ∀ v, K v → K' v) (h : aBin P op t c x y K) : aBin P op t c x y K' := by
  unfold aBin at h ⊢
  split at h
  · exact ⟨h.1, hk _ h.2⟩
  · exact ⟨h.1, hk _ h.2⟩
  · exact ⟨h.1, aInt_mono hk h.2⟩
  · exact aStr_mono hk h
  · exact aEq_mono (fun b => hk _) h
  · exact aEq_mono (fun b => hk _) h
  · exact h.elim
theorem aLoad_mono {H : AHeap} {t : TypeId} {p : Value} {K K' : Value → Prop} (hk : ∀ v, K v → K' v) (h : aLoad P H t p K) : aLoad P H t p K' := by
  unfold aLoad at h ⊢
  split at h
  · split at h
    · exact cellsAt_mono hk h
    · exact h.elim
  · exact h.elim
theorem aStore_mono {H : AHeap} {t : TypeId} {p x : Value} {K K' : AHeap → Prop} (hk : ∀ v, K v → K' v) (h : aStore P H t p x K) : aStore P H t p x K' := by
  unfold aStore at h ⊢
  split at h
  · split at h
    · exact ⟨h.1, h.2.1, h.2.2.1, hk _ h.2.2.2⟩
    · exact h.elim
  · exact h.elim
theorem aUn_mono {op : UnOp} {x : Value} {K K' : Value → Prop} (hk : ∀ v, K v → K' v) (h : aUn op x K) : aUn op x K' := by
  unfold aUn at h ⊢
  split at h <;> first | exact h.elim | exact hk _ h
theorem aConv_mono {s d : TypeId} {x : Value} {K K' : Value → Prop} (hk : ∀ v, K v → K' v) (h : aConv P s d x K) : aConv P s d x K' := by
  unfold aConv at h ⊢
  split at h <;> first | exact h.elim | exact hk _ h
theorem aIndexAddr_mono {t : TypeId} {x i : Value} {K K' : Value → Prop} (hk : ∀ v, K v → K' v) (h : aIndexAddr P t x i K) : aIndexAddr P t x i K' := by
  unfold aIndexAddr at h ⊢
  split at h
  · split at h
    · exact ⟨h.1, h.2.1, hk _ h.2.2⟩
    · exact h.elim
  · split at h
    · exact ⟨h.1, h.2.1, hk _ h.2.2⟩
    · exact h.elim
  · exact h.elim
theorem aIndex_mono {t : TypeId} {x i : Value} {K K' : Value → Prop} (hk : ∀ v, K v → K' v) (h : aIndex P t x i K) : aIndex P t x i K' := by
  unfold aIndex at h ⊢
  split at h
  · exact ⟨h.1, h.2.1, hk _ h.2.2⟩
  · split at h
    · exact ⟨h.1, h.2.1, cellsAt_mono hk h.2.2⟩
    · exact h.elim
  · exact h.elim
theorem aSlice_mono {H : AHeap} {t : TypeId} {x : Value} {lo hi mx : Option Value} {K K' : Value → Prop} (hk : ∀ v, K v → K' v) (h : aSlice P H t x lo hi mx K) : aSlice P H t x lo hi mx K' := by
  unfold aSlice at h ⊢
  split at h
  · obtain ⟨h0, h⟩ := h
    split at h
    · exact ⟨h0, h.1, h.2.1, h.2.2.1, hk _ h.2.2.2⟩
    · exact h.elim
  · exact ⟨h.1, h.2.1, h.2.2.1, h.2.2.2.1, hk _ h.2.2.2.2⟩
  · split at h
    · obtain ⟨a, b, c, h⟩ := h
      split at h
      · exact ⟨a, b, c, h.1, hk _ h.2⟩
      · exact ⟨a, b, c, h.1, h.2.1, h.2.2.1, hk _ h.2.2.2⟩
      · exact h.elim
    · exact h.elim
  · exact h.elim
theorem aLookup_mono {H : AHeap} {t : TypeId} {x k : Value} {ok : Bool} {K K' : Value → Prop} (hk : ∀ v, K v → K' v) (h : aLookup P H t x k ok K) : aLookup P H t x k ok K' := by
  unfold aLookup at h ⊢
  split at h
  · split at h
    · obtain ⟨a, b, c, h⟩ := h
      split at h
      · exact ⟨a, b, c, hk _ h⟩
      · exact ⟨a, b, c, hk _ h⟩
      · exact h.elim
    · exact h.elim
  · exact h.elim
theorem aMapUpdate_mono {H : AHeap} {t : TypeId} {x k v : Value} {K K' : AHeap → Prop} (hk : ∀ v, K v → K' v) (h : aMapUpdate P H t x k v K) : aMapUpdate P H t x k v K' := by
  unfold aMapUpdate at h ⊢
  split at h
  · split at h
    · obtain ⟨a, b, h⟩ := h
      split at h
      · exact ⟨a, b, hk _ h⟩
      · exact ⟨a, b, hk _ h⟩
      · exact h.elim
    · exact h.elim
  · exact h.elim
theorem aAppend_mono {H : AHeap} {t1 t2 : TypeId} {s x : Value} {K K' : Value → AHeap → Prop} (hk : ∀ v H', K v H' → K' v H') (h : aAppend P H t1 t2 s x K) : aAppend P H t1 t2 s x K' := by
  unfold aAppend at h ⊢
  split at h
  · obtain ⟨nc, n, h, hN⟩ := aNews_fix h
    refine hN _ ?_
    split at h
    · obtain ⟨a, b, h⟩ := h
      refine ⟨a, b, ?_⟩
      by_cases hn : n = 0
      · rw [if_pos hn] at h ⊢; exact hk _ _ h
      · rw [if_neg hn] at h ⊢; exact hk _ _ h
    · obtain ⟨a, b, h⟩ := h
      refine ⟨a, b, ?_⟩
      split at h
      · rename_i hn
        rw [if_pos hn]; exact hk _ _ h
      · rename_i hn
        rw [if_neg hn]
        split at h
        · rename_i hc
          rw [if_pos hc]
          split at h
          · rename_i hr
            rw [if_pos hr]
            split at h
            · exact ⟨h.1, h.2.1, hk _ _ h.2.2⟩
            · exact h.elim
          · rename_i hr
            rw [if_neg hr]
            split at h
            · exact ⟨h.1, hk _ _ h.2⟩
            · exact h.elim
        · rename_i hc
          rw [if_neg hc]
          split at h
          · exact ⟨h.1, h.2.1, h.2.2.1, hk _ _ h.2.2.2⟩
          · exact h.elim
    · exact h.elim
  · exact h.elim
theorem aLen_mono {H : AHeap} {t : TypeId} {x : Value} {K K' : Value → Prop} (hk : ∀ v, K v → K' v) (h : aLen P H t x K) : aLen P H t x K' := by
  unfold aLen at h ⊢
  split at h <;> first | exact h.elim | exact hk _ h | (split at h <;> first | exact h.elim | exact hk _ h)
theorem aMaxMin_mono {b : Bool} {xs : List Value} {K K' : Value → Prop} (hk : ∀ v, K v → K' v) (h : aMaxMin b xs K) : aMaxMin b xs K' := by
  unfold aMaxMin at h ⊢
  split at h <;> first | exact h.elim | exact ⟨h.1, hk _ h.2⟩
theorem aBuiltin_mono {H : AHeap} {b : Builtin} {ts : List TypeId} {xs : List Value} {K K' : Value → AHeap → Prop} (hk : ∀ v H', K v H' → K' v H') (h : aBuiltin P H b ts xs K) : aBuiltin P H b ts xs K' := by
  unfold aBuiltin at h ⊢
  split at h
  · exact aLen_mono (fun v => hk _ _) h
  · exact aAppend_mono hk h
  · exact aMaxMin_mono (fun v => hk _ _) h
  · exact aMaxMin_mono (fun v => hk _ _) h
  · exact h.elim
theorem aMake_mono {H : AHeap} {t : TypeId} {l c : Value} {K K' : Value → AHeap → Prop} (hk : ∀ v H', K v H' → K' v H') (h : aMake P H t l c K) : aMake P H t l c K' := by
  unfold aMake at h ⊢
  split at h
  · obtain ⟨a, b, c, d, e, f, g, h⟩ := h
    exact ⟨a, b, c, d, e, f, g, hk _ _ h⟩
  · exact h.elim
theorem aOp_mono {σ : Slots} {H : AHeap} {o : Oper} {K K' : Value → AHeap → Prop} (hk : ∀ v H', K v H' → K' v H') (h : aOp P σ H o K) : aOp P σ H o K' := by
  obtain ⟨dst, op, type, pos, after, guard⟩ := o
  cases op <;> simp only [aOp] at h ⊢ <;> try exact h.elim
  case move x => exact hk _ _ h
  case assign x => exact hk _ _ h
  case pick c x y =>
    split at h
    · exact hk _ _ h
    · exact h.elim
  case alloc e =>
    split at h
    · exact ⟨h.1, hk _ _ h.2⟩
    · exact h.elim
  case box e x => exact hk _ _ h
  case build t parts =>
    split at h
    · split at h
      · exact ⟨h.1, aFill_mono (fun v => hk _ _) _ _ h.2⟩
      · exact h.elim
    · split at h
      · exact ⟨h.1, aFill_mono (fun v => hk _ _) _ _ h.2⟩
      · exact h.elim
    · exact h.elim
  case buildSlice t len parts =>
    split at h
    · obtain ⟨a, b, c, d, h⟩ := h
      exact ⟨a, b, c, d, aFill_mono (fun v => hk _ _) _ _ h⟩
    · exact h.elim
  case load t x => exact aLoad_mono (fun v => hk _ _) h
  case store t x y => exact aStore_mono (fun v => hk _ _) h
  case nilCheck x =>
    split at h
    · exact hk _ _ h
    · exact hk _ _ h
    · exact h.elim
  case binOp bop t x y yt => exact aBin_mono (fun v => hk _ _) h
  case unOp uop t x => exact aUn_mono (fun v => hk _ _) h
  case convert s d x => exact aConv_mono (fun v => hk _ _) h
  case makeInterface t x =>
    split at h
    · exact h.elim
    · exact hk _ _ h
    · exact h.elim
  case makeFunc fn first captured => exact hk _ _ h
  case makeMap t r =>
    cases r with
    | some r => exact h.elim
    | none => exact hk _ _ h
  case makeSlice t l c => exact aMake_mono hk h
  case slice t x lo hi mx => exact aSlice_mono (fun v => hk _ _) h
  case fieldAddr s x f =>
    split at h
    · exact ⟨h.1, hk _ _ h.2⟩
    · exact h.elim
  case field t x f =>
    split at h
    · exact cellsAt_mono (fun v => hk _ _) h
    · exact h.elim
  case indexAddr t x i => exact aIndexAddr_mono (fun v => hk _ _) h
  case index t x i => exact aIndex_mono (fun v => hk _ _) h
  case lookup t x k ok => exact aLookup_mono (fun v => hk _ _) h
  case mapUpdate t x k v => exact aMapUpdate_mono (fun v => hk _ _) h
  case extract x i =>
    split at h
    · exact ⟨h.1, hk _ _ h.2⟩
    · exact h.elim
  case call c =>
    obtain ⟨callee, args, argTypes⟩ := c
    cases callee with
    | invoke r mth => exact h.elim
    | builtin b => exact aBuiltin_mono hk h
    | value f =>
      simp only at h ⊢
      split at h
      · obtain ⟨r, H', h1, h2⟩ := h
        exact ⟨r, H', h1, hk _ _ h2⟩
      · exact h.elim

/-- The slots that a list names keep apart. -/
def notIn (t : Nat) : List Nat → Bool
  | [] => true
  | x :: r => t != x && notIn t r
@[go_sem] theorem notIn_nil {t : Nat} : notIn t [] = true := (rfl)
@[go_sem] theorem notIn_cons {t x : Nat} {r : List Nat} : notIn t (x :: r) = (t != x && notIn t r) := (rfl)
def Same (ws : List Nat) (σ σ' : Slots) : Prop := ∀ t, notIn t ws = true → σ' t = σ t
theorem Same.refl (ws : List Nat) (σ : Slots) : Same ws σ σ := fun _ _ => rfl
theorem Same.trans {ws : List Nat} {a b c : Slots} (h : Same ws a b) (k : Same ws b c) : Same ws a c := fun t ht => (k t ht).trans (h t ht)
def writesOk (ws : List Nat) : Option Tmp → Bool
  | none => true
  | some d => !(notIn d ws)
theorem Same.put {ws : List Nat} {σ : Slots} {d : Option Tmp} {v : Value} (h : writesOk ws d = true) : Same ws σ (σ.put d v) := by
  intro t ht
  cases d with
  | none => rfl
  | some d =>
    show (if t = d then v else σ t) = σ t
    split
    · rename_i e; subst e; simp [writesOk, ht] at h
    · rfl
def frameOk (ws : List Nat) : Code → Bool
  | .region _ ops _ => ops.toList.all fun o => writesOk ws o.dst
  | .seq a b => frameOk ws a && frameOk ws b
  | .cond _ a b => frameOk ws a && frameOk ws b
  | .block _ c => frameOk ws c
  | .loop c => frameOk ws c
  | .skip | .exit _ | .ret | .label _ => true
  | _ => false
theorem aOpsL_mono {mode : Nat} {all : Array Oper} : ∀ (l : List Oper) (i : Nat) (acc : List (Nat × AHeap × AHeap)) (σ : Slots) (H : AHeap) (K K' : Slots → AHeap → Prop), (∀ σ H, K σ H → K' σ H) → aOpsL P mode all K l i acc σ H → aOpsL P mode all K' l i acc σ H
  | [], _, _, _, _, _, _, hk, h => ⟨h.1, hk _ _ h.2⟩
  | o :: r, i, acc, σ, H, K, K', hk, h => by
    simp only [aOpsL] at h ⊢
    split at h
    · rename_i hw
      rw [if_pos hw]
      exact aOp_mono (fun v H' h => ⟨h.1, aOpsL_mono r _ _ _ _ K K' hk h.2⟩) h
    · rename_i hw
      rw [if_neg hw]
      exact aOpsL_mono r _ _ _ _ K K' hk h
theorem aOpsL_frame {ws : List Nat} {mode : Nat} {all : Array Oper} : ∀ (l : List Oper) (i : Nat) (acc : List (Nat × AHeap × AHeap)) (σ : Slots) (H : AHeap) (K : Slots → AHeap → Prop), (l.all fun o => writesOk ws o.dst) = true → aOpsL P mode all K l i acc σ H → aOpsL P mode all (fun σ' H' => Same ws σ σ' ∧ K σ' H') l i acc σ H
  | [], _, _, _, _, _, _, h => ⟨h.1, Same.refl _ _, h.2⟩
  | o :: r, i, acc, σ, H, K, hw0, h => by
    simp only [List.all_cons, Bool.and_eq_true] at hw0
    simp only [aOpsL] at h ⊢
    split at h
    · rename_i hw
      rw [if_pos hw]
      exact aOp_mono (fun v H' h => ⟨h.1, aOpsL_mono r _ _ _ _ _ _ (fun σ' H' h => ⟨(Same.put hw0.1).trans h.1, h.2⟩) (aOpsL_frame r _ _ _ _ K hw0.2 h.2)⟩) h
    · rename_i hw
      rw [if_neg hw]
      exact aOpsL_mono r _ _ _ _ _ _ (fun σ' H' h => ⟨(Same.put hw0.1).trans h.1, h.2⟩) (aOpsL_frame r _ _ _ _ K hw0.2 h)
theorem aCode_mono {fl : List Nat} : ∀ (c : Code) (Q Q' : Exit → Slots → AHeap → Prop) (σ : Slots) (H : AHeap), (∀ e σ H, Q e σ H → Q' e σ H) → aCode P fl c Q σ H → aCode P fl c Q' σ H
  | .skip, _, _, _, _, hq, h => hq _ _ _ h
  | .label _, _, _, _, _, hq, h => hq _ _ _ h
  | .region id ops draw, Q, Q', σ, H, hq, h => aOpsL_mono _ _ _ _ _ _ _ (fun σ H h => hq _ _ _ h) h
  | .seq a b, Q, Q', σ, H, hq, h => aCode_mono a _ _ σ H (fun e σ H h => by cases e <;> first | exact hq _ _ _ h | exact aCode_mono b Q Q' σ H hq h) h
  | .cond c x y, Q, Q', σ, H, hq, h => by
    simp only [aCode] at h ⊢
    split at h
    · split at h
      · rename_i ht; rw [if_pos ht]; exact aCode_mono x Q Q' σ H hq h
      · rename_i ht; rw [if_neg ht]; exact aCode_mono y Q Q' σ H hq h
    · exact h.elim
  | .block id c, Q, Q', σ, H, hq, h => aCode_mono c _ _ σ H (fun e σ H h => by
      cases e <;> simp only at h ⊢ <;> try exact hq _ _ _ h
      split at h
      · rename_i he; rw [if_pos he]; exact hq _ _ _ h
      · rename_i he; rw [if_neg he]; exact hq _ _ _ h) h
  | .loop c, Q, Q', σ, H, hq, h => fun R hR => h R fun σ H h => hR σ H (aCode_mono c _ _ σ H (fun e σ H h => by cases e <;> first | exact h | exact hq _ _ _ h) h)
  | .exit id, _, _, _, _, hq, h => hq _ _ _ h
  | .ret, _, _, _, _, hq, h => hq _ _ _ h
theorem aCode_frame {fl : List Nat} {ws : List Nat} : ∀ (c : Code) (Q : Exit → Slots → AHeap → Prop) (σ : Slots) (H : AHeap), frameOk ws c = true → aCode P fl c Q σ H → aCode P fl c (fun e σ' H' => Same ws σ σ' ∧ Q e σ' H') σ H
  | .skip, _, _, _, _, h => ⟨Same.refl _ _, h⟩
  | .label _, _, _, _, _, h => ⟨Same.refl _ _, h⟩
  | .region id ops draw, Q, σ, H, hw, h => aOpsL_frame _ _ _ _ _ _ hw h
  | .seq a b, Q, σ, H, hw, h => by
    simp only [frameOk, Bool.and_eq_true] at hw
    refine aCode_mono a _ _ σ H (fun e σ' H h => ?_) (aCode_frame a _ σ H hw.1 h)
    cases e <;> first | exact h | skip
    exact aCode_mono b _ _ σ' H (fun e σ2 H2 h2 => ⟨h.1.trans h2.1, h2.2⟩) (aCode_frame b Q σ' H hw.2 h.2)
  | .cond c x y, Q, σ, H, hw, h => by
    simp only [frameOk, Bool.and_eq_true] at hw
    simp only [aCode] at h ⊢
    split at h
    · split at h
      · rename_i ht; rw [if_pos ht]; exact aCode_frame x Q σ H hw.1 h
      · rename_i ht; rw [if_neg ht]; exact aCode_frame y Q σ H hw.2 h
    · exact h.elim
  | .block id c, Q, σ, H, hw, h => aCode_mono c _ _ σ H (fun e σ' H h => by
      obtain ⟨hs, h⟩ := h
      cases e <;> simp only at h ⊢ <;> try exact ⟨hs, h⟩
      split at h
      · rename_i he; rw [if_pos he]; exact ⟨hs, h⟩
      · rename_i he; rw [if_neg he]; exact ⟨hs, h⟩) (aCode_frame c _ σ H hw h)
  | .loop c, Q, σ, H, hw, h => fun R hR => by
    refine h (fun σ' H' => Same ws σ σ' → R σ' H') (fun σ1 H1 h1 hs => ?_) (Same.refl _ _)
    refine hR σ1 H1 (aCode_mono c _ _ σ1 H1 (fun e σ2 H2 h2 => ?_) (aCode_frame c _ σ1 H1 hw h1))
    obtain ⟨hs2, h2⟩ := h2
    cases e <;> first | exact h2 (hs.trans hs2) | exact ⟨hs.trans hs2, h2⟩
  | .exit id, _, _, _, _, h => ⟨Same.refl _ _, h⟩
  | .ret, _, _, _, _, h => ⟨Same.refl _ _, h⟩
/-- A loop on the stack: an invariant over the slots that the loop writes; all others are as at its start. -/
theorem loopF {fl : List Nat} {Q : Exit → Slots → AHeap → Prop} {k : List K} {σ : Slots} {H : AHeap} {c : Code} (ws : List Nat) (hw : frameOk ws c = true) (I : Nat → Slots → AHeap → Prop) (n : Nat) (h : I n σ H)
    (step : ∀ n σ' H', I n σ' H' → (∀ t, notIn t ws = true → σ' t = σ t) → ∀ R : Slots → AHeap → Prop, (∀ n', n' < n → ∀ σ H, I n' σ H → R σ H) → run P fl (loopQ P fl Q k R) c [] σ' H') : run P fl Q (.loop c) k σ H := by
  refine looped (fun n σ' H' => I n σ' H' ∧ Same ws σ σ') n ⟨h, Same.refl _ _⟩ ?_
  rintro n σ1 H1 ⟨hi, hs⟩ R ih
  have h1 := step n σ1 H1 hi hs (fun σ2 H2 => Same ws σ1 σ2 → R σ2 H2) (fun n' hn σ2 H2 h2 hs2 => ih n' hn σ2 H2 ⟨h2, hs.trans hs2⟩)
  have h2 := aCode_frame (ws := ws) c _ σ1 H1 hw h1
  refine aCode_mono c _ _ σ1 H1 (fun e σ2 H2 h3 => ?_) h2
  obtain ⟨hs2, h3⟩ := h3
  cases e <;> first | exact h3 hs2 | exact h3
end Go.Ah

/- Rows of one's own: what appends give. -/
namespace Go.Ah
variable {P : Program} {H G : AHeap}
/-- v is a slice of n elements of sz cells that we made at or above lo, and that no one else reads on. -/
def Own (lo : Nat) (G : AHeap) (sz : Nat) (v : Value) (n : Nat) (css : List Value) : Prop :=
  n < big ∧ ∃ id cap, v = .slice (some ⟨id, 0, none⟩) n cap ∧ lo ≤ id ∧ id < G.size ∧ G.get id = .rw sz css ∧ css.length = n * sz ∧ css.all (·.oneCell') = true ∧ (cap = n ∨ cap = unk)
theorem Own.row {lo sz n : Nat} {v : Value} {css : List Value} (h : Own lo G sz v n css) : Row G sz v n css := by
  obtain ⟨hb, id, cap, rfl, _, hid, hg, hl, _, _⟩ := h
  exact row_new hid hg rfl hb (by omega) (by rw [List.take_of_length_le (by omega)])
theorem Own.above {lo sz n : Nat} {v : Value} {css : List Value} (h : Own lo G sz v n css) : ∀ id, idOf v = some id → lo ≤ id := by
  obtain ⟨hb, id, cap, rfl, h1, _⟩ := h
  intro id' e; cases e; exact h1
/-- Below lo nothing turns. -/
structure Under (lo : Nat) (H G : AHeap) : Prop where
  size : H.size ≤ G.size
  get : ∀ id, id < lo → G.get id = H.get id
theorem Under.refl (lo : Nat) (H : AHeap) : Under lo H H := ⟨Nat.le_refl _, fun _ _ => rfl⟩
theorem Under.trans {lo : Nat} {A B C : AHeap} (h : Under lo A B) (k : Under lo B C) : Under lo A C := ⟨Nat.le_trans h.size k.size, fun id hi => (k.get id hi).trans (h.get id hi)⟩
theorem AKeep.under {lo : Nat} (h : AKeep H G) (hl : lo ≤ H.size) : Under lo H G := ⟨h.size, fun id hi => h.get id (by omega)⟩
theorem Under.keep (h : Under H.size H G) : AKeep H G := ⟨h.size, h.get⟩
theorem Under.set {lo k : Nat} {o : AObj} (h : Under lo H G) (hk : lo ≤ k) : Under lo H (G.set k o) := ⟨by rw [size_set]; exact h.size, fun id hi => by rw [get_set_ne _ _ _ _ (by omega)]; exact h.get id hi⟩
theorem Own.keep {lo sz n : Nat} {v : Value} {css : List Value} (h : Own lo H sz v n css) (hk : AKeep H G) : Own lo G sz v n css := by
  obtain ⟨hb, id, cap, e, h1, h2, h3, h4⟩ := h
  exact ⟨hb, id, cap, e, h1, Nat.lt_of_lt_of_le h2 hk.size, by rw [hk.get id h2]; exact h3, h4⟩
/-- An append to a row of one's own. -/
theorem own_app {lo sz by_ n k : Nat} {v : Value} {css nc : List Value} {Kk : Value → AHeap → Prop} (h : Own lo G sz v n css) (hn : nc.length = k * sz) (ho : nc.all (·.oneCell') = true) (hk0 : 0 < k) (hb : (n + k) * by_ ≤ 140737488355328) (hb2 : n + k < big)
    (hk : ∀ v' G', Own lo G' sz v' (n + k) (css ++ nc) → Under lo G G' → Kk v' G') : appK P G sz by_ Kk v nc k := by
  obtain ⟨hbn, id, cap, rfl, h1, h2, h3, h4, h5, h6⟩ := h
  have hbig : n + k ≤ 9223372036854775807 := by unfold big at hb2; omega
  have ht : (css.drop 0).take (n * sz) ++ nc = css ++ nc := by rw [List.drop_zero, List.take_of_length_le (by omega)]
  rcases h6 with rfl | rfl
  · refine app_full (cs := css) (by rw [h3]; rfl) (by omega) (by unfold unk; unfold big at hb2; omega) hb hbig hk0 (by omega) ?_
    rw [ht]
    refine hk _ _ ⟨hb2, G.size, unk, rfl, by omega, by rw [size_push]; omega, get_push_same _ _, by rw [List.length_append, h4, hn, Nat.add_mul], by rw [List.all_append, h5, ho]; rfl, .inr rfl⟩ ⟨by rw [size_push]; omega, fun id' hi => get_push_lt _ _ _ (by omega)⟩
  · refine app_own (cs := css) h3 hb hbig hk0 ho (by omega) ?_
    rw [ht]
    refine hk _ _ ⟨hb2, G.size, unk, rfl, by omega, by rw [size_push, size_set]; omega, ?_, by rw [List.length_append, h4, hn, Nat.add_mul], by rw [List.all_append, h5, ho]; rfl, .inr rfl⟩ ⟨by rw [size_push, size_set]; omega, fun id' hi => ?_⟩
    · have := get_push_same (G.set id .dead) (.rw sz (css ++ nc)); rwa [size_set] at this
    · rw [get_push_lt _ _ _ (by rw [size_set]; omega), get_set_ne _ _ _ _ (by omega)]
theorem Own.ints {lo : Nat} {v : Value} {xs : List Int} (h : Own lo G 1 v xs.length (xs.map (Value.int .i64))) : Ints G v xs := h.row
theorem row_news {t2 : TypeId} {sz n : Nat} {v : Value} {css : List Value} {KN : List Value → Nat → Prop} (h : Row G sz v n css) (hd : isSliceD (P.underlying t2) = true) : aNews P G t2 sz v KN = KN css n := by
  obtain ⟨h1, h2, h3⟩ := h
  rcases h3 with ⟨rfl, rfl⟩ | ⟨id, off, cap, cs, rfl, hl, hc, he, hle, ht⟩
  · have : css = [] := List.eq_nil_of_length_eq_zero (by omega)
    subst this
    rcases hu : P.underlying t2 with _ | D
    · rw [hu] at hd; cases hd
    · rw [hu] at hd; cases D <;> first | (cases hd; done) | simp [aNews, hu]
  · rw [news_slice hd, hc, newsK_some, ht]
    exact propext ⟨fun h => h.2, fun h => ⟨hle, h⟩⟩
theorem own_app' {lo sz by_ n k : Nat} {v : Value} {css nc : List Value} {Kk : Value → AHeap → Prop} (h : Own lo G sz v n css) (hn : nc.length = k * sz) (ho : nc.all (·.oneCell') = true) (hb : (n + k) * by_ ≤ 140737488355328) (hb2 : n + k < big)
    (hk : ∀ v' G', Own lo G' sz v' (n + k) (css ++ nc) → Under lo G G' → Kk v' G') : appK P G sz by_ Kk v nc k := by
  rcases Nat.eq_zero_or_pos k with rfl | hk0
  · have : nc = [] := List.eq_nil_of_length_eq_zero (by omega)
    subst this
    obtain ⟨hbn, id, cap, rfl, h1⟩ := h
    refine app_none hb (by unfold big at hb2; omega) (hk _ _ ?_ (Under.refl _ _))
    rw [List.append_nil]
    exact ⟨hbn, id, cap, rfl, h1⟩
  · exact own_app h hn ho hk0 hb hb2 hk
/-- An empty literal is a row of one's own. -/
theorem own_lit {sz : Nat} : Own H.size (H.push (.rw sz [])) sz (.slice (some ⟨H.size, 0, none⟩) 0 0) 0 [] :=
  ⟨by unfold big; omega, H.size, 0, rfl, Nat.le_refl _, by rw [size_push]; omega, get_push_same _ _, by simp, rfl, .inl rfl⟩
theorem ints_one (xs : List Int) : (xs.map (Value.int .i64)).all (·.oneCell') = true := by
  induction xs with
  | nil => rfl
  | cons x r ih => rw [List.map_cons, List.all_cons, ih]; rfl
/-- A row of one's own, or nil. -/
def OwnN (lo : Nat) (G : AHeap) (sz : Nat) (v : Value) (n : Nat) (css : List Value) : Prop := (v = .slice none 0 0 ∧ n = 0 ∧ css = []) ∨ Own lo G sz v n css
theorem OwnN.row {lo sz n : Nat} {v : Value} {css : List Value} (h : OwnN lo G sz v n css) : Row G sz v n css := by
  rcases h with ⟨rfl, rfl, rfl⟩ | h
  · exact Row.nil
  · exact h.row
theorem OwnN.above {lo sz n : Nat} {v : Value} {css : List Value} (h : OwnN lo G sz v n css) : ∀ id, idOf v = some id → lo ≤ id := by
  rcases h with ⟨rfl, rfl, rfl⟩ | h
  · intro id e; cases e
  · exact h.above
theorem OwnN.keep {lo sz n : Nat} {v : Value} {css : List Value} (h : OwnN lo H sz v n css) (hk : AKeep H G) : OwnN lo G sz v n css := h.imp id fun h => h.keep hk
theorem ownN_app {lo sz by_ n k : Nat} {v : Value} {css nc : List Value} {Kk : Value → AHeap → Prop} (h : OwnN lo G sz v n css) (hlo : lo ≤ G.size) (hn : nc.length = k * sz) (ho : nc.all (·.oneCell') = true) (hk0 : 0 < k) (hb : (n + k) * by_ ≤ 140737488355328) (hb2 : n + k < big)
    (hk : ∀ v' G', Own lo G' sz v' (n + k) (css ++ nc) → Under lo G G' → Kk v' G') : appK P G sz by_ Kk v nc k := by
  rcases h with ⟨rfl, rfl, rfl⟩ | h
  · rw [Nat.zero_add] at hb hb2 hk
    refine app_nil hb (by unfold big at hb2; omega) hk0 (hk _ _ ?_ ((AKeep.push _ _).under hlo))
    exact ⟨hb2, G.size, unk, rfl, hlo, by rw [size_push]; omega, get_push_same _ _, hn, ho, .inr rfl⟩
  · exact own_app h hn ho hk0 hb hb2 hk
end Go.Ah

/- Rows of rows of one's own. -/
namespace Go.Ah
variable {P : Program} {H G : AHeap}
theorem Own.set {lo sz n k : Nat} {v : Value} {css : List Value} {o : AObj} (h : Own lo G sz v n css) (hk : idOf v ≠ some k) : Own lo (G.set k o) sz v n css := by
  obtain ⟨hb, id, cap, rfl, h1, h2, h3, h4⟩ := h
  have hne : k ≠ id := fun e => hk (by rw [e]; rfl)
  exact ⟨hb, id, cap, rfl, h1, by rw [size_set]; exact h2, by rw [get_set_ne _ _ _ _ hne]; exact h3, h4⟩
theorem OwnN.set {lo sz n k : Nat} {v : Value} {css : List Value} {o : AObj} (h : OwnN lo G sz v n css) (hk : idOf v ≠ some k) : OwnN lo (G.set k o) sz v n css := h.imp id fun h => h.set hk
/-- A slice of slices, all of it one's own, no two in one object. -/
structure OwnSS (lo : Nat) (G : AHeap) (v : Value) (vs : List Value) (xss : List (List Int)) : Prop where
  top : OwnN lo G 1 v vs.length vs
  len : vs.length = xss.length
  rows : ∀ i, i < xss.length → OwnN lo G 1 (nth vs i undef) (nth xss i []).length ((nth xss i []).map (Value.int .i64))
  off : ∀ i id, i < xss.length → idOf (nth vs i undef) = some id → idOf v ≠ some id
  apart : ∀ i j id, i < xss.length → j < xss.length → i ≠ j → idOf (nth vs i undef) = some id → idOf (nth vs j undef) ≠ some id
theorem OwnSS.intss {lo : Nat} {v : Value} {vs : List Value} {xss : List (List Int)} (h : OwnSS lo G v vs xss) : IntsS G v vs xss := ⟨h.top.row, h.len, fun i hi => (h.rows i hi).row⟩
theorem OwnSS.keep {lo : Nat} {v : Value} {vs : List Value} {xss : List (List Int)} (h : OwnSS lo H v vs xss) (hk : AKeep H G) : OwnSS lo G v vs xss :=
  ⟨h.top.keep hk, h.len, fun i hi => (h.rows i hi).keep hk, h.off, h.apart⟩
theorem OwnSS.set {lo k : Nat} {v : Value} {vs : List Value} {xss : List (List Int)} {o : AObj} (h : OwnSS lo G v vs xss) (hk : k < lo) : OwnSS lo (G.set k o) v vs xss :=
  ⟨h.top.set fun e => by have := h.top.above _ e; omega, h.len, fun i hi => (h.rows i hi).set fun e => by have := (h.rows i hi).above _ e; omega, h.off, h.apart⟩
/-- An append to a row of one's own or to nil: only the elder row's object turns. -/
theorem ownN_app2 {lo sz by_ n k : Nat} {v : Value} {css nc : List Value} {Kk : Value → AHeap → Prop} (h : OwnN lo G sz v n css) (hlo : lo ≤ G.size) (hn : nc.length = k * sz) (ho : nc.all (·.oneCell') = true) (hk0 : 0 < k) (hb : (n + k) * by_ ≤ 140737488355328) (hb2 : n + k < big)
    (hk : ∀ G', (∀ id, id < G.size → idOf v ≠ some id → G'.get id = G.get id) → G'.size = G.size + 1 → Own lo G' sz (.slice (some ⟨G.size, 0, none⟩) (n + k) unk) (n + k) (css ++ nc) → Kk (.slice (some ⟨G.size, 0, none⟩) (n + k) unk) G') : appK P G sz by_ Kk v nc k := by
  have hbig : n + k ≤ 9223372036854775807 := by unfold big at hb2; omega
  rcases h with ⟨rfl, rfl, rfl⟩ | ⟨hbn, id, cap, rfl, h1, h2, h3, h4, h5, h6⟩
  · rw [Nat.zero_add] at hb hb2 hk hbig
    exact app_nil hb hbig hk0 (hk _ (fun id hi _ => get_push_lt _ _ _ hi) (size_push _ _) ⟨hb2, G.size, unk, rfl, hlo, by rw [size_push]; omega, get_push_same _ _, hn, ho, .inr rfl⟩)
  have ht : (css.drop 0).take (n * sz) ++ nc = css ++ nc := by rw [List.drop_zero, List.take_of_length_le (by omega)]
  rcases h6 with rfl | rfl
  · refine app_full (cs := css) (by rw [h3]; rfl) (by omega) (by unfold unk; unfold big at hb2; omega) hb hbig hk0 (by omega) ?_
    rw [ht]
    exact hk _ (fun id' hi _ => get_push_lt _ _ _ hi) (size_push _ _) ⟨hb2, G.size, unk, rfl, hlo, by rw [size_push]; omega, get_push_same _ _, by rw [List.length_append, h4, hn, Nat.add_mul], by rw [List.all_append, h5, ho]; rfl, .inr rfl⟩
  · refine app_own (cs := css) h3 hb hbig hk0 ho (by omega) ?_
    rw [ht]
    refine hk _ (fun id' hi hne => ?_) (by rw [size_push, size_set]) ⟨hb2, G.size, unk, rfl, hlo, by rw [size_push, size_set]; omega, ?_, by rw [List.length_append, h4, hn, Nat.add_mul], by rw [List.all_append, h5, ho]; rfl, .inr rfl⟩
    · rw [get_push_lt _ _ _ (by rw [size_set]; omega), get_set_ne _ _ _ _ (fun e => hne (by rw [e]; rfl))]
    · have := get_push_same (G.set id .dead) (.rw sz (css ++ nc)); rwa [size_set] at this
theorem nth_append_lt {α : Type} {xs ys : List α} {i : Nat} {d : α} (h : i < xs.length) : nth (xs ++ ys) i d = nth xs i d := by
  simp [nth, List.getD_eq_getElem?_getD, List.getElem?_append_left h]
theorem nth_append_eq {α : Type} {xs : List α} {x d : α} : nth (xs ++ [x]) xs.length d = x := by
  simp [nth, List.getD_eq_getElem?_getD]
/-- One row more, out of an append. -/
theorem OwnSS.app {lo lo2 : Nat} {G' : AHeap} {v u : Value} {vs : List Value} {xss : List (List Int)} {xs : List Int} (h : OwnSS lo G v vs xss) (hlo : lo ≤ lo2) (hu : OwnN lo2 G 1 u xs.length (xs.map (Value.int .i64))) (hlt : lo2 ≤ G.size)
    (hne : ∀ id, idOf u = some id → idOf v ≠ some id) (hne2 : ∀ i, i < xss.length → ∀ id, idOf u = some id → idOf (nth vs i undef) ≠ some id)
    (hg : ∀ id, id < G.size → idOf v ≠ some id → G'.get id = G.get id) (hs : G'.size = G.size + 1) (ho : Own lo G' 1 (.slice (some ⟨G.size, 0, none⟩) (vs.length + 1) unk) (vs.length + 1) (vs ++ [u])) :
    OwnSS lo G' (.slice (some ⟨G.size, 0, none⟩) (vs.length + 1) unk) (vs ++ [u]) (xss ++ [xs]) := by
  have hl := h.len
  have low : ∀ {l : Nat} {w : Value} {m : Nat} {cs : List Value}, OwnN l G 1 w m cs → ∀ id, idOf w = some id → id < G.size := by
    intro l w m cs hw id e
    rcases hw with ⟨rfl, _⟩ | ⟨_, id', cap, rfl, _, h2, _⟩
    · cases e
    · cases e; exact h2
  have carry : ∀ {l : Nat} {w : Value} {m : Nat} {cs : List Value}, lo ≤ l → OwnN l G 1 w m cs → (∀ id, idOf w = some id → idOf v ≠ some id) → OwnN lo G' 1 w m cs := by
    intro l w m cs hle hw hv
    rcases hw with hw | ⟨hb, id, cap, rfl, h1, h2, h3, h4⟩
    · exact .inl hw
    · exact .inr ⟨hb, id, cap, rfl, by omega, by omega, by rw [hg id h2 (hv id rfl)]; exact h3, h4⟩
  refine ⟨.inr (by rw [List.length_append]; exact ho), by simp [hl], fun i hi => ?_, fun i id hi e => ?_, fun i j id hi hj hij e => ?_⟩
  · rw [List.length_append] at hi
    simp only [List.length_cons, List.length_nil] at hi
    by_cases e : i < xss.length
    · rw [nth_append_lt (by omega), nth_append_lt e]
      exact carry (Nat.le_refl _) (h.rows i e) (fun id h' => h.off i id e h')
    · obtain rfl : i = xss.length := by omega
      rw [nth_append_eq, ← hl, nth_append_eq]
      exact carry hlo hu hne
  · rw [List.length_append] at hi
    simp only [List.length_cons, List.length_nil] at hi
    have : id < G.size := by
      by_cases e2 : i < xss.length
      · rw [nth_append_lt (by omega)] at e
        exact low (h.rows i e2) id e
      · obtain rfl : i = xss.length := by omega
        rw [← hl, nth_append_eq] at e
        exact low hu id e
    intro h'; cases h'; omega
  · rw [List.length_append] at hi hj
    simp only [List.length_cons, List.length_nil] at hi hj
    by_cases e1 : i < xss.length <;> by_cases e2 : j < xss.length
    · rw [nth_append_lt (by omega)] at e ⊢
      exact h.apart i j id e1 e2 hij e
    · obtain rfl : j = xss.length := by omega
      rw [nth_append_lt (by omega)] at e
      rw [← hl, nth_append_eq]
      intro h'; exact hne2 i e1 id h' e
    · obtain rfl : i = xss.length := by omega
      rw [← hl, nth_append_eq] at e
      rw [nth_append_lt (by omega)]
      exact hne2 j e2 id e
    · omega
theorem OwnSS.setN {lo k : Nat} {v : Value} {vs : List Value} {xss : List (List Int)} {o : AObj} (h : OwnSS lo G v vs xss) (h1 : idOf v ≠ some k) (h2 : ∀ i, i < xss.length → idOf (nth vs i undef) ≠ some k) : OwnSS lo (G.set k o) v vs xss :=
  ⟨h.top.set h1, h.len, fun i hi => (h.rows i hi).set (h2 i hi), h.off, h.apart⟩
theorem OwnN.low {lo sz n : Nat} {v : Value} {css : List Value} (h : OwnN lo G sz v n css) : ∀ id, idOf v = some id → id < G.size := by
  rcases h with ⟨rfl, _⟩ | ⟨_, id', cap, rfl, _, h2, _⟩
  · intro id e; cases e
  · intro id e; cases e; exact h2
theorem OwnN.of {lo sz n : Nat} {v : Value} {css : List Value} (h : Own lo G sz v n css) : OwnN lo G sz v n css := .inr h
theorem OwnN.le {lo lo' sz n : Nat} {v : Value} {css : List Value} (h : OwnN lo G sz v n css) (hl : lo' ≤ lo) : OwnN lo' G sz v n css := by
  rcases h with h | ⟨hb, id, cap, e, h1, h2⟩
  · exact .inl h
  · exact .inr ⟨hb, id, cap, e, by omega, h2⟩
theorem OwnSS.le {lo lo' : Nat} {v : Value} {vs : List Value} {xss : List (List Int)} (h : OwnSS lo G v vs xss) (hl : lo' ≤ lo) : OwnSS lo' G v vs xss :=
  ⟨h.top.le hl, h.len, fun i hi => (h.rows i hi).le hl, h.off, h.apart⟩
/-- A fresh row is appended to rows of one's own. -/
theorem ownSS_push {lo by_ : Nat} {G1 : AHeap} {v u : Value} {vs : List Value} {xss : List (List Int)} {xs : List Int} {Kk : Value → AHeap → Prop} (h : OwnSS lo G v vs xss) (k1 : AKeep G G1) (hl : lo ≤ G.size) (hu : OwnN G.size G1 1 u xs.length (xs.map (Value.int .i64)))
    (h1 : u.oneCell' = true) (hb : (xss.length + 1) * by_ ≤ 140737488355328) (hb2 : xss.length + 1 < big)
    (hk : ∀ v' vs' G', OwnSS lo G' v' vs' (xss ++ [xs]) → G'.size = G1.size + 1 → (∀ id, id < G1.size → idOf v ≠ some id → G'.get id = G1.get id) → idOf v' = some G1.size → (∀ i, i < xss.length + 1 → ∀ id, idOf (nth vs' i undef) = some id → (i < xss.length ∧ idOf (nth vs i undef) = some id) ∨ G.size ≤ id) → Kk v' G') :
    appK P G1 1 by_ Kk v [u] 1 := by
  have hlen := h.len
  have hlt := k1.size
  have h' := h.keep k1
  refine ownN_app2 (lo := lo) (h'.top) (by omega) (by simp) (by simp [h1]) (by omega) (by rw [hlen]; exact hb) (by rw [hlen]; exact hb2) fun G' hg hs ho => ?_
  rw [hlen] at ho ⊢
  refine hk _ (vs ++ [u]) G' ?_ hs hg rfl ?_
  · have := h'.app (lo2 := G.size) hl hu hlt (fun id e e2 => ?_) (fun i hi id e e2 => ?_) hg hs (by rw [hlen]; exact ho)
    · rwa [hlen] at this
    · have h3 := hu.above id e; have h4 := h.top.low id e2; omega
    · have h3 := hu.above id e; have h4 := (h.rows i hi).low id e2; omega
  · intro i hi id e
    by_cases e1 : i < xss.length
    · rw [nth_append_lt (by omega)] at e; exact .inl ⟨e1, e⟩
    · obtain rfl : i = xss.length := by omega
      rw [← hlen, nth_append_eq] at e
      exact .inr (hu.above id e)
end Go.Ah

/- Rows that are held: written, cut and appended to. -/
namespace Go.Ah
variable {P : Program} {H G G' : AHeap}
/-- v is a slice of n elements of sz cells, at or above lo, at the start of an object that we may write. -/
def Hd (lo : Nat) (G : AHeap) (sz : Nat) (v : Value) (n : Nat) (css : List Value) : Prop :=
  n < big ∧ css.length = n * sz ∧ ((v = .slice none 0 0 ∧ n = 0) ∨ ∃ id cap cs, v = .slice (some ⟨id, 0, none⟩) n cap ∧ lo ≤ id ∧ id < G.size ∧ G.get id = .rw sz cs ∧ n * sz ≤ cs.length ∧ cs.take (n * sz) = css ∧ cs.all (·.oneCell') = true ∧
    (cap < unk → n ≤ cap ∧ cap * sz ≤ cs.length) ∧ (¬ cap < unk → cap = unk))
section
variable {lo sz n : Nat} {v u : Value} {css : List Value}
theorem Hd.row (h : Hd lo G sz v n css) : Row G sz v n css := by
  obtain ⟨hb, hl, h | ⟨id, cap, cs, rfl, h1, h2, h3, h4, h5, h6⟩⟩ := h
  · exact ⟨hb, hl, .inl h⟩
  · exact ⟨hb, hl, .inr ⟨id, 0, cap, cs, rfl, h2, by rw [h3]; rfl, by rw [h3]; rfl, by omega, by rw [List.drop_zero]; exact h5⟩⟩
theorem Hd.of (h : OwnN lo G sz v n css) : Hd lo G sz v n css := by
  rcases h with ⟨rfl, rfl, rfl⟩ | ⟨hb, id, cap, rfl, h1, h2, h3, h4, h5, h6⟩
  · exact ⟨by unfold big; omega, by simp, .inl ⟨rfl, rfl⟩⟩
  · refine ⟨hb, h4, .inr ⟨id, cap, css, rfl, h1, h2, h3, by omega, by rw [List.take_of_length_le (by omega)], h5, fun hu => ?_, fun hu => ?_⟩⟩
    · rcases h6 with rfl | rfl
      · omega
      · simp at hu
    · rcases h6 with rfl | rfl
      · exact absurd hb (by unfold unk at hu; unfold big; omega)
      · rfl
theorem Hd.above (h : Hd lo G sz v n css) : ∀ id, idOf v = some id → lo ≤ id := by
  obtain ⟨hb, hl, ⟨rfl, _⟩ | ⟨id, cap, cs, rfl, h1, h2⟩⟩ := h
  · intro id e; cases e
  · intro id' e; cases e; exact h1
theorem Hd.low (h : Hd lo G sz v n css) : ∀ id, idOf v = some id → id < G.size := by
  obtain ⟨hb, hl, ⟨rfl, _⟩ | ⟨id, cap, cs, rfl, h1, h2, h3⟩⟩ := h
  · intro id e; cases e
  · intro id' e; cases e; exact h2
theorem Hd.slice (h : Hd lo G sz v n css) : ∃ a m c, v = .slice a m c := h.row.slice
theorem Hd.one (h : Hd lo G sz v n css) : v.oneCell' = true := by
  obtain ⟨a, m, c, rfl⟩ := h.slice; rfl
theorem Hd.cells (h : Hd lo G sz v n css) : v.cells = #[v] := by
  obtain ⟨a, m, c, rfl⟩ := h.slice; rfl
theorem Hd.keepF (h : Hd lo G sz v n css) (hs : G.size ≤ G'.size) (hf : ∀ id, idOf v = some id → G'.get id = G.get id) : Hd lo G' sz v n css := by
  obtain ⟨hb, hl, h | ⟨id, cap, cs, rfl, h1, h2, h3, h4⟩⟩ := h
  · exact ⟨hb, hl, .inl h⟩
  · exact ⟨hb, hl, .inr ⟨id, cap, cs, rfl, h1, by omega, by rw [hf id rfl]; exact h3, h4⟩⟩
theorem Hd.keep (h : Hd lo G sz v n css) (hk : AKeep G G') : Hd lo G' sz v n css := h.keepF hk.size fun id e => hk.get id (h.low id e)
theorem Hd.le {lo' : Nat} (h : Hd lo G sz v n css) (hl : lo' ≤ lo) : Hd lo' G sz v n css := by
  obtain ⟨hb, hl2, h | ⟨id, cap, cs, rfl, h1, h2⟩⟩ := h
  · exact ⟨hb, hl2, .inl h⟩
  · exact ⟨hb, hl2, .inr ⟨id, cap, cs, rfl, by omega, h2⟩⟩
theorem Hd.len (h : Hd lo G sz v n css) : css.length = n * sz := h.2.1
/-- The first m elements. -/
theorem hd_cut {t : TypeId} {kd : IntKind} {m : Nat} {K : Value → Prop} (h : Hd lo G sz v n css) (he : elemSz P t = some sz) (hm : m ≤ n) (hk : ∀ v', Hd lo G sz v' m (css.take (m * sz)) → idOf v' = idOf v → K v') :
    aSlice P G t v none (some (.int kd m)) none K := by
  obtain ⟨hb, hl, ⟨rfl, rfl⟩ | ⟨id, cap, cs, rfl, h1, h2, h3, h4, h5, h6, h7, h8⟩⟩ := h
  · obtain rfl : m = 0 := by omega
    unfold aSlice
    unfold elemSz at he
    rcases hu : P.underlying t with _ | D
    · rw [hu] at he; cases he
    rw [hu] at he
    cases D <;> first | (cases he; done) | skip
    simp only at he
    refine ⟨by rw [he]; rfl, rfl, rfl, rfl, hk _ ⟨hb, by simp, .inl ⟨rfl, rfl⟩⟩ rfl⟩
  · have hu : isSliceD (P.underlying t) = true := by
      unfold elemSz at he
      rcases hu : P.underlying t with _ | D
      · rw [hu] at he; cases he
      · rw [hu] at he; cases D <;> first | (cases he; done) | rfl
    rw [slice_slice hu]
    have hmn : m * sz ≤ n * sz := Nat.mul_le_mul_right _ hm
    rw [he, h3]
    simp only [go_sem, true_and]
    refine ⟨by omega, by omega, by omega, ?_⟩
    have e1 : (0 : Int).toNat = 0 := rfl
    have e2 : ((m : Int) - 0).toNat = m := by omega
    rw [e1, e2, Nat.zero_mul, Nat.sub_zero]
    have e3 : (if cap < unk then cap else cap) = cap := by split <;> rfl
    rw [e3]
    refine hk _ ⟨by omega, by rw [List.length_take]; omega, .inr ⟨id, cap, cs, rfl, h1, h2, h3, by omega, ?_, h6, fun hc => ⟨by have := (h7 hc).1; omega, (h7 hc).2⟩, h8⟩⟩ rfl
    rw [← h5, List.take_take, Nat.min_eq_left hmn]
theorem splice_take : ∀ (vs cs : List Value) (off N : Nat), off + vs.length ≤ N → (splice cs off vs).take N = splice (cs.take N) off vs
  | [], _, _, _, _ => rfl
  | x :: r, cs, off, N, h => by
    simp only [splice]
    simp only [List.length_cons] at h
    rw [splice_take r _ _ N (by omega), List.take_set]
theorem splice_one : ∀ (vs cs : List Value) (off : Nat), cs.all (·.oneCell') = true → vs.all (·.oneCell') = true → (splice cs off vs).all (·.oneCell') = true
  | [], _, _, h, _ => h
  | x :: r, cs, off, h, h2 => by
    simp only [List.all_cons, Bool.and_eq_true] at h2
    refine splice_one r _ _ ?_ h2.2
    rw [List.all_eq_true] at h ⊢
    intro y hy
    rcases List.mem_or_eq_of_mem_set hy with h3 | rfl
    · exact h y h3
    · exact h2.1
theorem splice_app : ∀ (vs cs : List Value) (off : Nat), off + vs.length ≤ cs.length → (splice cs off vs).take (off + vs.length) = cs.take off ++ vs
  | [], cs, off, h => by simp [splice]
  | x :: r, cs, off, h => by
    simp only [List.length_cons] at h
    simp only [splice, List.length_cons]
    have := splice_app r (cs.set off x) (off + 1) (by rw [List.length_set]; omega)
    rw [show off + (r.length + 1) = off + 1 + r.length by omega, this]
    rw [List.take_set, List.take_succ_eq_append_getElem (by omega), List.set_append_right _ _ (by simp; omega)]
    have : off - (cs.take off).length = 0 := by simp; omega
    rw [this, List.set_cons_zero]; simp
/-- A store into a held row. -/
theorem hd_store {t : TypeId} {m k : Nat} {K : AHeap → Prop} (h : Hd lo G sz v n css) (ht : tSz P t = some m) (hv : u.cells.size = m) (ho : u.cells.toList.all (·.oneCell') = true) (hk : k + m ≤ n * sz) (h0 : 0 < m)
    (hK : ∀ G', Hd lo G' sz v n (splice css k u.cells.toList) → G'.size = G.size → (∀ id, idOf v ≠ some id → G'.get id = G.get id) → K G') : aStore P G t (elemPtr v k) u K := by
  obtain ⟨hb, hl, ⟨rfl, rfl⟩ | ⟨id, cap, cs, rfl, h1, h2, h3, h4, h5, h6, h7, h8⟩⟩ := h
  · omega
  · show aStore P G t (.pointer (some ⟨id, 0 + k, none⟩)) u K
    rw [Nat.zero_add]
    refine store_by ht h3 hv ho (by omega) ?_
    have hvl : u.cells.toList.length = m := by simpa using hv
    refine hK _ ⟨hb, by rw [splice_length]; exact hl, .inr ⟨id, cap, _, rfl, h1, by rw [size_set]; exact h2, get_set_same _ _ _ h2, by rw [splice_length]; exact h4, ?_, splice_one _ _ _ h6 ho, fun hc => by rw [splice_length]; exact h7 hc, h8⟩⟩ (size_set _ _ _) fun id' hne => get_set_ne _ _ _ _ fun e => hne (by rw [e]; rfl)
    rw [splice_take _ _ _ _ (by omega), h5]
/-- An append to a held row. -/
theorem hd_app {by_ k : Nat} {nc : List Value} {Kk : Value → AHeap → Prop} (h : Hd lo G sz v n css) (hlo : lo ≤ G.size) (hn : nc.length = k * sz) (ho : nc.all (·.oneCell') = true) (hb : (n + k) * by_ ≤ 140737488355328) (hb2 : n + k < big)
    (hk : ∀ v' G', Hd lo G' sz v' (n + k) (css ++ nc) → G.size ≤ G'.size → (∀ id, id < G.size → idOf v ≠ some id → G'.get id = G.get id) → (∀ id, idOf v' = some id → idOf v = some id ∨ G.size ≤ id) → Kk v' G') : appK P G sz by_ Kk v nc k := by
  have hbig : n + k ≤ 9223372036854775807 := by unfold big at hb2; omega
  obtain ⟨hbn, hl, ⟨rfl, rfl⟩ | ⟨id, cap, cs, rfl, h1, h2, h3, h4, h5, h6, h7, h8⟩⟩ := h
  · rw [Nat.zero_add] at hb hb2 hk hbig
    have hc0 : css = [] := List.eq_nil_of_length_eq_zero (by omega)
    subst hc0
    rcases Nat.eq_zero_or_pos k with rfl | hk0
    · have : nc = [] := List.eq_nil_of_length_eq_zero (by omega)
      subst this
      exact ⟨hb, hbig, by rw [if_pos rfl]; exact hk _ _ ⟨hb2, by simp, .inl ⟨rfl, rfl⟩⟩ (Nat.le_refl _) (fun _ _ _ => rfl) (fun id e => by cases e)⟩
    · refine app_nil hb hbig hk0 (hk _ _ ⟨hb2, hn, .inr ⟨G.size, unk, nc, rfl, hlo, by rw [size_push]; omega, get_push_same _ _, by omega, by rw [List.take_of_length_le (by omega)]; rfl, ho, fun hu => by simp at hu, fun _ => rfl⟩⟩ (by rw [size_push]; omega) (fun id hi _ => get_push_lt _ _ _ hi) (fun id e => .inr (by cases e; exact Nat.le_refl _)))
  · have hlen : (css ++ nc).length = (n + k) * sz := by rw [List.length_append, hl, hn, Nat.add_mul]
    have hd : (cs.drop 0).take (n * sz) ++ nc = css ++ nc := by rw [List.drop_zero, h5]
    have hall : (css ++ nc).all (·.oneCell') = true := by
      rw [List.all_append, ho, Bool.and_true, ← h5]
      rw [List.all_eq_true] at h6 ⊢
      exact fun x hx => h6 x (List.mem_of_mem_take hx)
    rcases Nat.eq_zero_or_pos k with rfl | hk0
    · have : nc = [] := List.eq_nil_of_length_eq_zero (by omega)
      subst this
      refine app_none hb hbig (hk _ _ ?_ (Nat.le_refl _) (fun _ _ _ => rfl) (fun id e => .inl e))
      rw [List.append_nil]
      exact ⟨hbn, hl, .inr ⟨id, cap, cs, rfl, h1, h2, h3, h4, h5, h6, h7, h8⟩⟩
    by_cases hu : cap < unk
    · obtain ⟨h7a, h7b⟩ := h7 hu
      by_cases hfit : n + k ≤ cap
      · refine ⟨hb, hbig, ?_⟩
        rw [if_neg (by omega), if_pos hu, if_pos hfit, h3]
        have hle : (n + k) * sz ≤ cs.length := Nat.le_trans (Nat.mul_le_mul_right _ hfit) h7b
        have hadd : (n + k) * sz = n * sz + nc.length := by rw [hn, Nat.add_mul]
        refine ⟨ho, by omega, ?_⟩
        rw [Nat.zero_add]
        refine hk _ _ ⟨hb2, hlen, .inr ⟨id, cap, _, rfl, h1, by rw [size_set]; exact h2, get_set_same _ _ _ h2, by rw [splice_length]; exact hle, ?_, splice_one _ _ _ h6 ho, fun _ => ⟨hfit, by rw [splice_length]; exact h7b⟩, h8⟩⟩ (by rw [size_set]; exact Nat.le_refl _) (fun id' _ hne => get_set_ne _ _ _ _ fun e => hne (by rw [e]; rfl)) (fun id' e => .inl e)
        rw [hadd, splice_app _ _ _ (by omega), h5]
      · refine app_full (cs := cs) (by rw [h3]; rfl) (by omega) hu hb hbig hk0 (by omega) ?_
        rw [hd]
        exact hk _ _ ⟨hb2, hlen, .inr ⟨G.size, unk, _, rfl, hlo, by rw [size_push]; omega, get_push_same _ _, by omega, by rw [List.take_of_length_le (by omega)], hall, fun hu => by simp at hu, fun _ => rfl⟩⟩ (by rw [size_push]; omega) (fun id hi _ => get_push_lt _ _ _ hi) (fun id e => .inr (by cases e; exact Nat.le_refl _))
    · obtain rfl := h8 hu
      refine app_own (cs := cs) h3 hb hbig hk0 ho (by omega) ?_
      rw [hd]
      refine hk _ _ ⟨hb2, hlen, .inr ⟨G.size, unk, _, rfl, hlo, by rw [size_push, size_set]; omega, ?_, by omega, by rw [List.take_of_length_le (by omega)], hall, fun hu => by simp at hu, fun _ => rfl⟩⟩ (by rw [size_push, size_set]; omega) (fun id' hi hne => ?_) (fun id e => .inr (by cases e; exact Nat.le_refl _))
      · have := get_push_same (G.set id .dead) (.rw sz (css ++ nc)); rwa [size_set] at this
      · rw [get_push_lt _ _ _ (by rw [size_set]; omega), get_set_ne _ _ _ _ (fun e => hne (by rw [e]; rfl))]
end
theorem Hd.ints {lo : Nat} {v : Value} {xs : List Int} (h : Hd lo G 1 v xs.length (xs.map (Value.int .i64))) : Ints G v xs := h.row
/-- A slice of slices of ints, all of it held, no two in one object. -/
structure HSS (lo : Nat) (G : AHeap) (v : Value) (vs : List Value) (xss : List (List Int)) : Prop where
  top : Hd lo G 1 v vs.length vs
  len : vs.length = xss.length
  rows : ∀ i, i < xss.length → Hd lo G 1 (nth vs i undef) (nth xss i []).length ((nth xss i []).map (Value.int .i64))
  off : ∀ i id, i < xss.length → idOf (nth vs i undef) = some id → idOf v ≠ some id
  apart : ∀ i j id, i < xss.length → j < xss.length → i ≠ j → idOf (nth vs i undef) = some id → idOf (nth vs j undef) ≠ some id
/-- An object that a slice of slices lies in. -/
def InF (v : Value) (vs : List Value) (id : Nat) : Prop := idOf v = some id ∨ ∃ i, i < vs.length ∧ idOf (nth vs i undef) = some id
section
variable {lo : Nat} {v : Value} {vs : List Value} {xss : List (List Int)}
theorem HSS.of (h : OwnSS lo G v vs xss) : HSS lo G v vs xss := ⟨Hd.of h.top, h.len, fun i hi => Hd.of (h.rows i hi), h.off, h.apart⟩
theorem HSS.intss (h : HSS lo G v vs xss) : IntsS G v vs xss := ⟨h.top.row, h.len, fun i hi => (h.rows i hi).row⟩
theorem HSS.keepF (h : HSS lo G v vs xss) (hs : G.size ≤ G'.size) (hf : ∀ id, InF v vs id → G'.get id = G.get id) : HSS lo G' v vs xss :=
  ⟨h.top.keepF hs fun id e => hf id (.inl e), h.len, fun i hi => (h.rows i hi).keepF hs fun id e => hf id (.inr ⟨i, by rw [h.len]; exact hi, e⟩), h.off, h.apart⟩
theorem HSS.above (h : HSS lo G v vs xss) {id : Nat} (hi : InF v vs id) : lo ≤ id := by
  rcases hi with e | ⟨i, hi, e⟩
  · exact h.top.above _ e
  · exact (h.rows i (by rw [← h.len]; exact hi)).above _ e
theorem HSS.low (h : HSS lo G v vs xss) {id : Nat} (hi : InF v vs id) : id < G.size := by
  rcases hi with e | ⟨i, hi, e⟩
  · exact h.top.low _ e
  · exact (h.rows i (by rw [← h.len]; exact hi)).low _ e
theorem HSS.keep (h : HSS lo G v vs xss) (hk : AKeep G G') : HSS lo G' v vs xss := h.keepF hk.size fun id hi => hk.get id (h.low hi)
theorem HSS.setL {k : Nat} {o : AObj} (h : HSS lo G v vs xss) (hk : k < lo) : HSS lo (G.set k o) v vs xss := h.keepF (by rw [size_set]; exact Nat.le_refl _) fun id hi => get_set_ne _ _ _ _ (by have := h.above hi; omega)
theorem HSS.le {lo' : Nat} (h : HSS lo G v vs xss) (hl : lo' ≤ lo) : HSS lo' G v vs xss := ⟨h.top.le hl, h.len, fun i hi => (h.rows i hi).le hl, h.off, h.apart⟩
theorem hss_nil : HSS lo G (.slice none 0 0) [] [] :=
  ⟨⟨by unfold big; simp, by simp, .inl ⟨rfl, rfl⟩⟩, rfl, fun i hi => by simp at hi, fun i id hi => by simp at hi, fun i j id hi => by simp at hi⟩
theorem inF_nil {id : Nat} : ¬ InF (.slice none 0 0) [] id := by
  rintro (e | ⟨i, hi, _⟩)
  · cases e
  · simp at hi
/-- A row is replaced. -/
theorem hss_put {t : TypeId} {k : Nat} {u : Value} {xs : List Int} {K : AHeap → Prop} (h : HSS lo G v vs xss) (hk : k < xss.length) (hu : Hd lo G' 1 u xs.length (xs.map (Value.int .i64))) (hs : G.size ≤ G'.size)
    (hf : ∀ id, id < G.size → idOf (nth vs k undef) ≠ some id → G'.get id = G.get id) (hn : ∀ id, idOf u = some id → idOf (nth vs k undef) = some id ∨ G.size ≤ id) (ht : tSz P t = some 1)
    (hK : ∀ G'', HSS lo G'' v (vs.set k u) (xss.set k xs) → G''.size = G'.size → (∀ id, idOf v ≠ some id → G''.get id = G'.get id) → (∀ id, InF v (vs.set k u) id → InF v vs id ∨ G.size ≤ id) → K G'') : aStore P G' t (elemPtr v k) u K := by
  have hl := h.len
  have htop : Hd lo G' 1 v vs.length vs := h.top.keepF hs fun id e => hf id (h.top.low id e) (fun e2 => h.off k id hk e2 e)
  have hun : ∀ id, idOf u = some id → idOf v ≠ some id := fun id e e2 => by
    rcases hn id e with h1 | h1
    · exact h.off k id hk h1 e2
    · have := h.top.low id e2; omega
  have hur : ∀ j, j < xss.length → j ≠ k → ∀ id, idOf u = some id → idOf (nth vs j undef) ≠ some id := fun j hj hjk id e e2 => by
    rcases hn id e with h1 | h1
    · exact h.apart j k id hj hk hjk e2 h1
    · have := (h.rows j hj).low id e2; omega
  refine hd_store htop ht (by rw [hu.cells]; rfl) (by rw [hu.cells]; simp [hu.one]) (by omega) (by omega) fun G'' h1 h2 h3 => ?_
  rw [hu.cells] at h1
  simp only [splice] at h1
  refine hK G'' ⟨by rw [List.length_set]; exact h1, by simp [hl], fun i hi => ?_, fun i id hi e => ?_, fun i j id hi hj hij e => ?_⟩ h2 h3 (fun id hid => ?_)
  · rw [List.length_set] at hi
    by_cases e : k = i
    · subst e
      rw [nth_set_eq (by omega), nth_set_eq hk]
      exact hu.keepF (by omega) fun id e => h3 id (hun id e)
    · rw [nth_set_ne e, nth_set_ne e]
      exact (h.rows i hi).keepF (by omega) fun id e2 => by
        rw [h3 id (h.off i id hi e2), hf id ((h.rows i hi).low id e2) (h.apart i k id hi hk (fun x => e x.symm) e2)]
  · rw [List.length_set] at hi
    by_cases e1 : k = i
    · subst e1
      rw [nth_set_eq (by omega)] at e
      exact hun id e
    · rw [nth_set_ne e1] at e
      exact h.off i id hi e
  · rw [List.length_set] at hi hj
    by_cases e1 : k = i <;> by_cases e2 : k = j
    · omega
    · subst e1
      rw [nth_set_eq (by omega)] at e
      rw [nth_set_ne e2]
      exact hur j hj (fun x => e2 x.symm) id e
    · subst e2
      rw [nth_set_ne e1] at e
      rw [nth_set_eq (by omega)]
      exact fun e3 => hur i hi (fun x => e1 x.symm) id e3 e
    · rw [nth_set_ne e1] at e
      rw [nth_set_ne e2]
      exact h.apart i j id hi hj hij e
  · rcases hid with e | ⟨i, hi, e⟩
    · exact .inl (.inl e)
    · rw [List.length_set] at hi
      by_cases e1 : k = i
      · subst e1
        rw [nth_set_eq (by omega)] at e
        rcases hn id e with h4 | h4
        · exact .inl (.inr ⟨k, hi, h4⟩)
        · exact .inr h4
      · rw [nth_set_ne e1] at e
        exact .inl (.inr ⟨i, hi, e⟩)
end
@[go_sem] theorem wantedV_undef {w : Bool} : wantedV w undef = false := (rfl)
def modeIf (b : Bool) (m : Nat) : Nat := if b = true then 2 else m
@[go_sem] theorem modeIf_true {m : Nat} : modeIf true m = 2 := (rfl)
@[go_sem] theorem modeIf_false {m : Nat} : modeIf false m = m := (rfl)
@[go_sem] theorem modeOf_cons {x id : Nat} {fl : List Nat} : modeOf (x :: fl) id true = modeIf (id == x) (modeOf fl id true) := by
  unfold modeIf
  simp only [modeOf, List.contains_cons]
  cases h : (id == x) <;> simp
/-- In a drawn region: what is read beside what is written. -/
def floatOne (A B : AHeap) (σ : Slots) (l : List Operand) : Prop := ∀ a ∈ l, ∀ id, objOf (evO σ a) = some id → B.get id = A.get id
theorem floatCond_cons {ops : Array Oper} {i : Nat} {A B : AHeap} {r : List (Nat × AHeap × AHeap)} {σ : Slots} {l : List Operand} (hl : floatsOf ops i = l) (h1 : floatOne A B σ l) (h2 : floatCond ops r σ) : floatCond ops ((i, A, B) :: r) σ := by
  intro x hx
  rcases List.mem_cons.1 hx with rfl | hx
  · intro a ha; rw [hl] at ha; exact .inr (h1 a ha)
  · exact h2 x hx
theorem floatOne_nil {A B : AHeap} {σ : Slots} : floatOne A B σ [] := fun _ h => by cases h
theorem floatOne_cons {A B : AHeap} {σ : Slots} {a : Operand} {l : List Operand} (h : ∀ id, objOf (evO σ a) = some id → B.get id = A.get id) (h2 : floatOne A B σ l) : floatOne A B σ (a :: l) := fun x hx => by
  rcases List.mem_cons.1 hx with rfl | hx
  · exact h
  · exact h2 x hx
section
variable {all : Array Oper} {i : Nat} {A B : AHeap} {acc : List (Nat × AHeap × AHeap)} {σ : Slots}
@[go_sem] theorem acc_move {x : Operand} : accOf 2 (.move x) i A B acc = acc := by simp [accOf]
@[go_sem] theorem acc_assign {x : Operand} : accOf 2 (.assign x) i A B acc = acc := by simp [accOf]
@[go_sem] theorem acc_pick {x y z : Operand} : accOf 2 (.pick x y z) i A B acc = acc := by simp [accOf]
@[go_sem] theorem acc_alloc {e : TypeId} : accOf 2 (.alloc e) i A B acc = acc := by simp [accOf]
@[go_sem] theorem acc_box {e : TypeId} {x : Operand} : accOf 2 (.box e x) i A B acc = acc := by simp [accOf]
@[go_sem] theorem acc_build {e : TypeId} {ps : Array (Nat × Operand)} : accOf 2 (.build e ps) i A B acc = acc := by simp [accOf]
@[go_sem] theorem acc_buildSlice {e : TypeId} {n : Nat} {ps : Array (Nat × Operand)} : accOf 2 (.buildSlice e n ps) i A B acc = acc := by simp [accOf]
@[go_sem] theorem acc_load {e : TypeId} {x : Operand} : accOf 2 (.load e x) i A B acc = acc := by simp [accOf]
@[go_sem] theorem acc_nilCheck {x : Operand} : accOf 2 (.nilCheck x) i A B acc = acc := by simp [accOf]
@[go_sem] theorem acc_binOp {o : BinOp} {e f : TypeId} {x y : Operand} : accOf 2 (.binOp o e x y f) i A B acc = acc := by simp [accOf]
@[go_sem] theorem acc_unOp {o : UnOp} {e : TypeId} {x : Operand} : accOf 2 (.unOp o e x) i A B acc = acc := by simp [accOf]
@[go_sem] theorem acc_convert {e f : TypeId} {x : Operand} : accOf 2 (.convert e f x) i A B acc = acc := by simp [accOf]
@[go_sem] theorem acc_makeInterface {e : TypeId} {x : Operand} : accOf 2 (.makeInterface e x) i A B acc = acc := by simp [accOf]
@[go_sem] theorem acc_makeFunc {f : Fn} {xs ys : Array Operand} : accOf 2 (.makeFunc f xs ys) i A B acc = acc := by simp [accOf]
@[go_sem] theorem acc_makeMap {e : TypeId} {x : Option Operand} : accOf 2 (.makeMap e x) i A B acc = acc := by simp [accOf]
@[go_sem] theorem acc_makeSlice {e : TypeId} {x y : Operand} : accOf 2 (.makeSlice e x y) i A B acc = acc := by simp [accOf]
@[go_sem] theorem acc_slice {e : TypeId} {x : Operand} {y z u : Option Operand} : accOf 2 (.slice e x y z u) i A B acc = acc := by simp [accOf]
@[go_sem] theorem acc_fieldAddr {e : TypeId} {x : Operand} {f : Nat} : accOf 2 (.fieldAddr e x f) i A B acc = acc := by simp [accOf]
@[go_sem] theorem acc_field {e : TypeId} {x : Operand} {f : Nat} : accOf 2 (.field e x f) i A B acc = acc := by simp [accOf]
@[go_sem] theorem acc_indexAddr {e : TypeId} {x y : Operand} : accOf 2 (.indexAddr e x y) i A B acc = acc := by simp [accOf]
@[go_sem] theorem acc_index {e : TypeId} {x y : Operand} : accOf 2 (.index e x y) i A B acc = acc := by simp [accOf]
@[go_sem] theorem acc_lookup {e : TypeId} {x y : Operand} {b : Bool} : accOf 2 (.lookup e x y b) i A B acc = acc := by simp [accOf]
@[go_sem] theorem acc_extract {x : Operand} {f : Nat} : accOf 2 (.extract x f) i A B acc = acc := by simp [accOf]
@[go_sem] theorem acc_store {e : TypeId} {x y : Operand} : accOf 2 (.store e x y) i A B acc = (i, A, B) :: acc := by simp [accOf]
@[go_sem] theorem acc_mapUpdate {e : TypeId} {x y z : Operand} : accOf 2 (.mapUpdate e x y z) i A B acc = (i, A, B) :: acc := by simp [accOf]
@[go_sem] theorem acc_call {c : Call} : accOf 2 (.call c) i A B acc = (i, A, B) :: acc := by simp [accOf]
theorem draw2_keep {o : Op} (h : AKeep A B) : drawCond P 2 all i o A B := by
  unfold drawCond
  split
  · rename_i h2 _; omega
  · split <;> first | trivial | exact .inl h
  · trivial
@[go_sem] theorem draw2_same {o : Op} : drawCond P 2 all i o A A = True := eq_true (draw2_keep (AKeep.refl _))
@[go_sem] theorem draw2_push {o : Op} {x : AObj} : drawCond P 2 all i o A (A.push x) = True := eq_true (draw2_keep (AKeep.push _ _))
@[go_sem] theorem draw2_store {e : TypeId} {x y : Operand} : drawCond P 2 all i (.store e x y) A B = True := by simp [drawCond]
@[go_sem] theorem draw2_mapUpdate {e : TypeId} {x y z : Operand} : drawCond P 2 all i (.mapUpdate e x y z) A B = True := by simp [drawCond]
theorem draw2_weak {o : Op} (h : weakB P all i = true) : drawCond P 2 all i o A B := by
  unfold drawCond
  split
  · rename_i h2 _; omega
  · split <;> first | trivial | exact .inr h
  · trivial
theorem float_keep {r : List (Nat × AHeap × AHeap)} (h : AKeep A B) : floatCond all ((i, A, B) :: r) σ = floatCond all r σ := by
  unfold floatCond
  refine propext ⟨fun h2 x hx => h2 x (List.mem_cons_of_mem _ hx), fun h2 x hx a ha => ?_⟩
  rcases List.mem_cons.1 hx with rfl | hx
  · exact .inl h
  · exact h2 x hx a ha
@[go_sem] theorem float_same {r : List (Nat × AHeap × AHeap)} : floatCond all ((i, A, A) :: r) σ = floatCond all r σ := float_keep (AKeep.refl _)
@[go_sem] theorem float_push {r : List (Nat × AHeap × AHeap)} {x : AObj} : floatCond all ((i, A, A.push x) :: r) σ = floatCond all r σ := float_keep (AKeep.push _ _)
end
end Go.Ah

/- From what a statement hands in to an abstract heap that is only read. -/
namespace Go.Ah
variable {P : Program} {W : World}

inductive CT where
  | int (k : IntKind)
  | bool
  | str
  | sl (e : Nat) (ks : List CT)

def shapes (P : Program) (sh : TypeId → Option (List CT)) : List Field → Nat → Option (List CT)
  | [], _ => some []
  | f :: r, o => if f.offset = o then match sh f.type with
      | some a => if a.length = P.cellsOf f.type then (shapes P sh r (o + P.cellsOf f.type)).map (a ++ ·) else none
      | none => none
    else none
def shape (P : Program) : Nat → TypeId → Option (List CT)
  | 0, _ => none
  | n + 1, t => match P.underlying t with
    | some .bool => some [.bool]
    | some (.int k) => some [.int k]
    | some .string => some [.str]
    | some (.slice e) => match shape P n e with
      | some ks => if 0 < P.cellsOf e ∧ ks.length = P.cellsOf e then some [.sl (P.cellsOf e) ks] else none
      | none => none
    | some (.struct fs) => match shapes P (shape P n) fs.toList 0 with
      | some ks => if ks.length = P.cellsOf t then some ks else none
      | none => none
    | _ => none

/-- Cells of the world that read through. -/
inductive Good (W : World) : List CT → List Value → Prop
  | nil : Good W [] []
  | int {k : IntKind} {n : Int} {ks cs} : (Lit.int k n).wf = true → Good W ks cs → Good W (.int k :: ks) (.int k n :: cs)
  | bool {b : Bool} {ks cs} : Good W ks cs → Good W (.bool :: ks) (.bool b :: cs)
  | str {s : ByteArray} {ks cs} : s.size ≤ maxLen → Good W ks cs → Good W (.str :: ks) (.string s :: cs)
  | snil {e : Nat} {es ks cs} : Good W ks cs → Good W (.sl e es :: ks) (.slice none 0 0 :: cs)
  | sl {e : Nat} {es ks cs} {a : Addr} {len cap : Nat} (rows : List (List Value)) : 0 < W.heap.size → len ≤ cap → cap ≤ maxLen → 0 < e → rows.length = len → (0 < cap → a.spot = none ∧ a.block < W.heap.size) →
      (∀ i, i < len → (nth rows i []).length = e ∧ ∀ j, j < e → W.cell? ⟨a.block, a.off + (i * e + j), none⟩ = some (nth (nth rows i []) j undef)) → (∀ i, i < len → Good W es (nth rows i [])) →
      Good W ks cs → Good W (.sl e es :: ks) (.slice (some a) len cap :: cs)
theorem Good.append {ks ks' : List CT} {cs cs' : List Value} (h : Good W ks cs) (h' : Good W ks' cs') : Good W (ks ++ ks') (cs ++ cs') := by
  induction h with
  | nil => exact h'
  | int a _ ih => exact .int a ih
  | bool _ ih => exact .bool ih
  | str a _ ih => exact .str a ih
  | snil _ ih => exact .snil ih
  | sl rows a b c d e f g h _ _ ih => exact .sl rows a b c d e f g h ih
theorem Good.length {ks : List CT} {cs : List Value} (h : Good W ks cs) : ks.length = cs.length := by
  induction h <;> simp_all

section
variable {H : Type} {enc : TypeId × Value → H} {held : Bool}
theorem cells_get {a : Addr} {n : Nat} {cs : List Value} (h : W.cells? 0 a n = some cs) : cs.length = n ∧ ∀ j, j < n → W.cell? (a.add j) = some (nth cs j undef) := by
  unfold World.cells? at h
  rw [if_pos (Nat.zero_le _)] at h
  have h1 := mapM_some_length h
  rw [List.length_range] at h1
  refine ⟨h1, fun j hj => ?_⟩
  have h2 := mapM_some_get h j j (by simp [hj])
  rw [h2]
  simp [nth, List.getD_eq_getElem?_getD, List.getElem?_eq_getElem (by omega : j < cs.length)]
theorem cell_spot {a : Addr} {v : Value} (h : W.cell? a = some v) : a.spot = none ∧ a.block < W.heap.size := by
  unfold World.cell? at h
  split at h
  · rename_i hb
    split at h
    · cases h
    · rename_i hs
      refine ⟨by simpa using hs, ?_⟩
      exact (Array.getElem?_eq_some_iff.1 hb).1
  · cases h
theorem add_none {a : Addr} (h : a.spot = none) (n : Nat) : a.add n = ⟨a.block, a.off + n, none⟩ := by
  unfold Addr.add
  split
  · rename_i e; subst e; cases a; simp_all
  · rfl
theorem shapes_good {sh : TypeId → Option (List CT)} (cs : List Value) : ∀ (fs : List Field) (o : Nat) (ks : List CT), shapes P sh fs o = some ks → o + ks.length ≤ cs.length →
    (∀ f, f ∈ fs → ∀ a, sh f.type = some a → Good W a ((cs.drop f.offset).take (P.cellsOf f.type))) → Good W ks ((cs.drop o).take ks.length)
  | [], o, ks, h, hl, hf => by
    cases h; exact .nil
  | f :: r, o, ks, h, hl, hf => by
    unfold shapes at h
    split at h
    · rename_i ho
      split at h
      · rename_i a ha
        split at h
        · rename_i hla
          rw [Option.map_eq_some_iff] at h
          obtain ⟨ks', h1, rfl⟩ := h
          simp only [List.length_append] at hl ⊢
          have g1 := hf f (by simp) a ha
          have g2 := shapes_good cs r _ ks' h1 (by omega) (fun f hm => hf f (by simp [hm]))
          rw [List.take_add, List.drop_drop]
          rw [ho] at g1
          rw [hla]
          exact g1.append g2
        · cases h
      · cases h
    · cases h
theorem trod_good : ∀ (n : Nat) (t : TypeId) (ks : List CT), shape P n t = some ks → ∀ (fuel : Nat) (cs : List Value) (x : DataW H × List MemPlace),
    DataW.trod enc P W 0 (fun _ => true) held fuel t cs = some x → (∀ a l c, Value.slice (some a) l c ∈ cs → 0 < W.heap.size) → Good W ks cs
  | 0, t, ks, h, _, _, _, _, _ => by cases h
  | n + 1, t, ks, h, fuel, cs, x, ht, hsl => by
    unfold shape at h
    split at h
    · rename_i hu
      cases h
      obtain ⟨b, rfl, _⟩ := DataW.trod_bool hu ht
      exact .bool .nil
    · rename_i k hu
      cases h
      obtain ⟨b, rfl, _, hw⟩ := DataW.trod_int hu ht
      exact .int hw .nil
    · rename_i hu
      cases h
      obtain ⟨b, rfl, _, hw⟩ := DataW.trod_string hu ht
      exact .str hw .nil
    · rename_i e hu
      split at h
      · rename_i ks' hks
        split at h
        · rename_i h0
          cases h
          rcases DataW.trod_slice hu ht with ⟨rfl, _⟩ | ⟨a, len, cap, elems, rest, m, rfl, rfl, _, _, hlc, hcm, hel, hem, hrest, _⟩
          · exact .snil .nil
          · have hW := hsl a len cap (by simp)
            obtain ⟨hrl, hr⟩ := hrest rfl
            have each : ∀ i, i < len → ∃ row, W.cells? 0 (a.add (i * P.cellsOf e)) (P.cellsOf e) = some row ∧ ∃ y, DataW.trod enc P W 0 (fun _ => true) held m e row = some y := by
              intro i hi
              have h1 := hem i hi
              rw [List.getElem?_eq_getElem (by omega), Option.bind_eq_some_iff] at h1
              obtain ⟨row, h2, h3⟩ := h1
              exact ⟨row, h2, _, h3⟩
            have hcap : 0 < cap → a.spot = none ∧ a.block < W.heap.size := by
              intro hc
              have : ∃ row, W.cells? 0 (a.add (0 * P.cellsOf e)) (P.cellsOf e) = some row := by
                by_cases hl : 0 < len
                · obtain ⟨row, h2, _⟩ := each 0 hl
                  exact ⟨row, h2⟩
                · have h1 := hr 0 (by omega)
                  rw [List.getElem?_eq_getElem (by omega), Option.bind_eq_some_iff] at h1
                  obtain ⟨row, h2, _⟩ := h1
                  rw [show len + 0 = 0 by omega] at h2
                  exact ⟨row, h2⟩
              obtain ⟨row, h2⟩ := this
              rw [Nat.zero_mul] at h2
              have h3 := (cells_get h2).2 0 h0.1
              exact cell_spot h3
            let rows : List (List Value) := (List.range len).map fun i => ((W.cells? 0 (a.add (i * P.cellsOf e)) (P.cellsOf e)).getD [])
            have hrows : ∀ i, i < len → nth rows i [] = ((W.cells? 0 (a.add (i * P.cellsOf e)) (P.cellsOf e)).getD []) := by
              intro i hi
              simp [rows, nth, List.getD_eq_getElem?_getD, hi]
            refine .sl rows hW hlc hcm h0.1 (by simp [rows]) hcap ?_ ?_ .nil
            · intro i hi
              obtain ⟨row, h2, y, h3⟩ := each i hi
              rw [hrows i hi, h2]
              obtain ⟨h4, h5⟩ := cells_get h2
              refine ⟨h4, fun j hj => ?_⟩
              have h6 := h5 j hj
              have hs := (hcap (by omega)).1
              have hs2 : (a.add (i * P.cellsOf e)).spot = none := by rw [add_none hs]
              rw [add_none hs2, add_none hs] at h6
              simpa [Nat.add_assoc] using h6
            · intro i hi
              obtain ⟨row, h2, y, h3⟩ := each i hi
              rw [hrows i hi, h2]
              exact trod_good n e ks' hks m row y h3 (fun _ _ _ _ => hW)
        · cases h
      · cases h
    · rename_i fs hu
      split at h
      · rename_i ks' hks
        split at h
        · rename_i hl
          cases h
          obtain ⟨xs, m, rfl, _, hcl, hxl, hf⟩ := DataW.trod_struct hu ht
          have := shapes_good (W := W) cs fs.toList 0 ks hks (by omega) (fun f hm a ha => ?_)
          · rw [List.drop_zero, List.take_of_length_le (by omega)] at this
            exact this
          · obtain ⟨i, hi⟩ := List.getElem?_of_mem hm
            have h1 := hf i f (by simpa using hi)
            have hix : i < xs.length := by
              have := (List.getElem?_eq_some_iff.1 hi).1
              rw [hxl]; simpa using this
            rw [List.getElem?_eq_getElem hix] at h1
            exact trod_good n f.type a ha m _ _ h1 (fun a l c hmem => hsl a l c (List.mem_of_mem_drop (List.mem_of_mem_take hmem)))
        · cases h
      · cases h
    · cases h
end

/-- Abstract cells that read through. -/
inductive Reads (H : AHeap) : List CT → List Value → Prop
  | nil : Reads H [] []
  | int {k : IntKind} {n : Int} {ks cs} : (Lit.int k n).wf = true → Reads H ks cs → Reads H (.int k :: ks) (.int k n :: cs)
  | bool {b : Bool} {ks cs} : Reads H ks cs → Reads H (.bool :: ks) (.bool b :: cs)
  | str {s : ByteArray} {ks cs} : s.size ≤ maxLen → Reads H ks cs → Reads H (.str :: ks) (.string s :: cs)
  | snil {e : Nat} {es ks cs} : Reads H ks cs → Reads H (.sl e es :: ks) (.slice none 0 0 :: cs)
  | sl {e : Nat} {es ks cs} {id len : Nat} (rows : List (List Value)) : id < H.size → H.get id = .ro e rows.flatten → rows.length = len → len ≤ maxLen → 0 < e → (∀ i, i < len → (nth rows i []).length = e) →
      (∀ i, i < len → Reads H es (nth rows i [])) → Reads H ks cs → Reads H (.sl e es :: ks) (.slice (some ⟨id, 0, none⟩) len unk :: cs)
theorem Reads.keep {H H' : AHeap} {ks : List CT} {cs : List Value} (h : Reads H ks cs) (hk : AKeep H H') : Reads H' ks cs := by
  induction h with
  | nil => exact .nil
  | int a _ ih => exact .int a ih
  | bool _ ih => exact .bool ih
  | str a _ ih => exact .str a ih
  | snil _ ih => exact .snil ih
  | sl rows a b c d e f _ _ ih1 ih2 => exact .sl rows (Nat.lt_of_lt_of_le a hk.size) (by rw [hk.get _ a]; exact b) c d e f ih1 ih2
theorem flat_len (e : Nat) : ∀ (rows : List (List Value)), (∀ i, i < rows.length → (nth rows i []).length = e) → rows.flatten.length = rows.length * e
  | [], _ => by simp
  | r :: rs, h => by
    have h0 := h 0 (by simp)
    have := flat_len e rs (fun i hi => h (i + 1) (by simpa using hi))
    simp only [List.flatten_cons, List.length_append, List.length_cons, this]
    simp only [nth, List.getD_cons_zero] at h0
    rw [h0, Nat.add_mul]; omega
theorem flat_get (e : Nat) (he : 0 < e) : ∀ (rows : List (List Value)), (∀ i, i < rows.length → (nth rows i []).length = e) → ∀ i j, i < rows.length → j < e → rows.flatten.getD (i * e + j) undef = nth (nth rows i []) j undef
  | [], _, i, j, hi, hj => by simp at hi
  | r :: rs, h, i, j, hi, hj => by
    have h0 : r.length = e := by simpa [nth] using h 0 (by simp)
    cases i with
    | zero =>
      simp only [List.flatten_cons, Nat.zero_mul, Nat.zero_add, nth, List.getD_cons_zero, List.getD_eq_getElem?_getD]
      rw [List.getElem?_append_left (by omega)]
      simp
    | succ i =>
      have := flat_get e he rs (fun i hi => h (i + 1) (by simpa using hi)) i j (by simpa using hi) hj
      simp only [List.flatten_cons, nth, List.getD_cons_succ, List.getD_eq_getElem?_getD] at this ⊢
      rw [List.getElem?_append_right (by rw [h0, Nat.add_mul]; omega)]
      rw [show (i + 1) * e + j - r.length = i * e + j by rw [h0, Nat.add_mul]; omega]
      simpa using this

def Opened (m : Map) (H : AHeap) (W : World) (m' : Map) (H' : AHeap) : Prop :=
  Rel m' H' W ∧ (∀ id x, m id = some x → m' id = some x) ∧ (∀ id, H'.size ≤ id → m' id = none) ∧ (∀ id, ¬ H'.hot id) ∧ AKeep H H'
theorem Opened.trans {m1 m2 m3 : Map} {H1 H2 H3 : AHeap} (h : Opened m1 H1 W m2 H2) (k : Opened m2 H2 W m3 H3) : Opened m1 H1 W m3 H3 :=
  ⟨k.1, fun id x hx => k.2.1 id x (h.2.1 id x hx), k.2.2.1, k.2.2.2.1, h.2.2.2.2.trans k.2.2.2.2⟩
theorem Opened.push {m : Map} {H : AHeap} (hr : Rel m H W) (hf : ∀ id, H.size ≤ id → m id = none) (hh : ∀ id, ¬ H.hot id) {l : Loc} {cs : List Value} (hb : l.blk < W.heap.size)
    (hc : ∀ j, j < cs.length → ∃ v', W.cell? ⟨l.blk, l.at_ + j, none⟩ = some v' ∧ VRel m (cs.getD j undef) v') :
    Opened m H W (fun id => if id = H.size then some l else m id) (H.push (.ro l.esz cs)) := by
  have hext : ∀ id x, m id = some x → (fun id => if id = H.size then some l else m id : Map) id = some x := by
    intro id x hx
    have : id ≠ H.size := fun e => by rw [e, hf _ (Nat.le_refl _)] at hx; cases hx
    simp [this, hx]
  have hot : ∀ id, ¬ (H.push (.ro l.esz cs)).hot id := by
    intro id h
    by_cases e : id = H.size
    · rw [AHeap.hot, e, get_push_same] at h; exact h
    · rw [AHeap.hot, get_push_ne _ _ _ e] at h; exact hh id h
  refine ⟨⟨?_, ?_, ?_, ?_, ?_⟩, hext, ?_, hot, AKeep.push _ _⟩
  · intro id x hx
    change (if id = H.size then some l else m id) = some x at hx
    split at hx
    · cases hx; exact hb
    · exact hr.dom id x hx
  · intro id x e cs' hx hg
    change (if id = H.size then some l else m id) = some x at hx
    split at hx
    · rename_i he
      cases hx
      rw [he, get_push_same] at hg
      cases hg
      refine ⟨rfl, fun j hj => ?_⟩
      obtain ⟨v', h1, h2⟩ := hc j hj
      exact ⟨v', h1, h2.mono hext⟩
    · rename_i he
      rw [get_push_ne _ _ _ he] at hg
      obtain ⟨h1, h2⟩ := hr.ro id x e cs' hx hg
      refine ⟨h1, fun j hj => ?_⟩
      obtain ⟨v', h3, h4⟩ := h2 j hj
      exact ⟨v', h3, h4.mono hext⟩
  · intro id x e cs' hx hg
    exact (hot id (by rw [AHeap.hot, hg]; trivial)).elim
  · intro id x es hx hg
    exact (hot id (by rw [AHeap.hot, hg]; trivial)).elim
  · intro id id' x x' _ _ _ _ hho
    exact (hot id hho).elim
  · intro id hid
    rw [size_push] at hid
    have : id ≠ H.size := by omega
    simp only [this, if_false]
    exact hf id (by omega)

theorem Good.build {ks : List CT} {cs : List Value} (h : Good W ks cs) : ∀ (m : Map) (H : AHeap), Rel m H W → (∀ id, H.size ≤ id → m id = none) → (∀ id, ¬ H.hot id) →
    ∃ m' H' avs, Opened m H W m' H' ∧ VRelL m' avs cs ∧ Reads H' ks avs := by
  induction h with
  | nil => exact fun m H hr hf hh => ⟨m, H, [], ⟨hr, fun _ _ h => h, hf, hh, AKeep.refl _⟩, VRelL.nil _, .nil⟩
  | int a _ ih =>
    intro m H hr hf hh
    obtain ⟨m', H', avs, h1, h2, h3⟩ := ih m H hr hf hh
    exact ⟨m', H', _, h1, h2.cons (.int _ _), .int a h3⟩
  | bool _ ih =>
    intro m H hr hf hh
    obtain ⟨m', H', avs, h1, h2, h3⟩ := ih m H hr hf hh
    exact ⟨m', H', _, h1, h2.cons (.bool _), .bool h3⟩
  | str a _ ih =>
    intro m H hr hf hh
    obtain ⟨m', H', avs, h1, h2, h3⟩ := ih m H hr hf hh
    exact ⟨m', H', _, h1, h2.cons (.string _), .str a h3⟩
  | snil _ ih =>
    intro m H hr hf hh
    obtain ⟨m', H', avs, h1, h2, h3⟩ := ih m H hr hf hh
    exact ⟨m', H', _, h1, h2.cons .snil, .snil h3⟩
  | @sl e es ks cs a len cap rows hW hlc hcm he hrl hcap hrow hgood _ ih1 ih2 =>
    intro m H hr hf hh
    -- the rows, one by one
    have each : ∀ k, k ≤ len → ∃ m' H' avs, Opened m H W m' H' ∧ avs.length = k ∧ (∀ i, i < k → VRelL m' (nth avs i []) (nth rows i [])) ∧ (∀ i, i < k → Reads H' es (nth avs i [])) := by
      intro k
      induction k with
      | zero => exact fun _ => ⟨m, H, [], ⟨hr, fun _ _ h => h, hf, hh, AKeep.refl _⟩, rfl, fun i hi => absurd hi (by omega), fun i hi => absurd hi (by omega)⟩
      | succ k ihk =>
        intro hk
        obtain ⟨m1, H1, avs, o1, hl, hv, hrd⟩ := ihk (by omega)
        obtain ⟨m2, H2, bs, o2, hv2, hrd2⟩ := ih1 k (by omega) m1 H1 o1.1 o1.2.2.1 o1.2.2.2.1
        refine ⟨m2, H2, avs ++ [bs], o1.trans o2, by simp [hl], fun i hi => ?_, fun i hi => ?_⟩
        · by_cases e : i < k
          · have : nth (avs ++ [bs]) i [] = nth avs i [] := by simp [nth, List.getD_eq_getElem?_getD, List.getElem?_append_left (by omega : i < avs.length)]
            rw [this]; exact (hv i e).mono o2.2.1
          · obtain rfl : i = k := by omega
            have : nth (avs ++ [bs]) i [] = bs := by simp [nth, List.getD_eq_getElem?_getD, ← hl]
            rw [this]; exact hv2
        · by_cases e : i < k
          · have : nth (avs ++ [bs]) i [] = nth avs i [] := by simp [nth, List.getD_eq_getElem?_getD, List.getElem?_append_left (by omega : i < avs.length)]
            rw [this]; exact (hrd i e).keep o2.2.2.2.2
          · obtain rfl : i = k := by omega
            have : nth (avs ++ [bs]) i [] = bs := by simp [nth, List.getD_eq_getElem?_getD, ← hl]
            rw [this]; exact hrd2
    obtain ⟨m1, H1, avs, o1, hl, hv, hrd⟩ := each len (Nat.le_refl _)
    have hlen : ∀ i, i < len → (nth avs i []).length = e := fun i hi => by rw [(hv i hi).1]; exact (hrow i hi).1
    -- the row's object
    have o2 := Opened.push o1.1 o1.2.2.1 o1.2.2.2.1 (l := ⟨if cap = 0 then 0 else a.block, a.off, e, cap * e⟩) (cs := avs.flatten)
      (by simp only; split
          · exact hW
          · exact (hcap (by omega)).2)
      (by
        intro j hj
        rw [flat_len e avs (by rw [hl]; exact hlen), hl] at hj
        have hi : j / e < len := by rw [Nat.div_lt_iff_lt_mul he]; exact hj
        have hpos : 0 < len := Nat.lt_of_le_of_lt (Nat.zero_le _) hi
        have hjm : j % e < e := Nat.mod_lt _ he
        have hje : j = j / e * e + j % e := by rw [Nat.mul_comm]; exact (Nat.div_add_mod j e).symm
        have h1 := (hrow (j / e) hi).2 (j % e) hjm
        rw [← hje] at h1
        have hc0 : ¬ cap = 0 := by intro hc; omega
        simp only [if_neg hc0]
        refine ⟨_, h1, ?_⟩
        have h2 := flat_get e he avs (by rw [hl]; exact hlen) (j / e) (j % e) (by rw [hl]; exact hi) hjm
        rw [← hje] at h2
        rw [h2]
        exact (hv (j / e) hi).2 (j % e) (by rw [hlen _ hi]; exact hjm))
    obtain ⟨m3, H3, bs, o3, hv3, hrd3⟩ := ih2 _ _ o2.1 o2.2.2.1 o2.2.2.2.1
    refine ⟨m3, H3, .slice (some ⟨H1.size, 0, none⟩) len unk :: bs, (o1.trans o2).trans o3, hv3.cons ?_, ?_⟩
    · have hm : m3 H1.size = some ⟨if cap = 0 then 0 else a.block, a.off, e, cap * e⟩ := o3.2.1 _ _ (by simp)
      refine .sl hm hlc (fun h => absurd h (by simp)) ?_
      by_cases hc0 : cap = 0
      · exact .inr hc0
      · left
        simp only [if_neg hc0]
        have hs := (hcap (by omega)).1
        exact ⟨by cases a; simp_all, by omega⟩
    · have hk := o2.2.2.2.2
      refine .sl avs (Nat.lt_of_lt_of_le (by rw [size_push]; omega) o3.2.2.2.2.size) ?_ hl (by omega) he hlen (fun i hi => ?_) hrd3
      · rw [o3.2.2.2.2.get _ (by rw [size_push]; omega), get_push_same]
      · exact ((hrd i hi).keep hk).keep o3.2.2.2.2
end Go.Ah

/- A statement's row out of a walk over the abstract heap. -/
namespace Go.Ah
variable {P : Program} {W : World}
theorem cell_heap {base : Nat} {t : TypeId} {a : Addr} {l c : Nat} (h : Cell.okWide P W .any base t (.slice (some a) l c)) : 0 < W.heap.size := by
  unfold Cell.okWide Cell.ok at h
  have key : ∀ e n, World.has P W .any base a e n → 0 < W.heap.size := by
    intro e n h
    obtain ⟨_, _, row, cells, h1, _⟩ := h
    unfold World.shape? at h1
    split at h1
    · rename_i hb
      have := (Array.getElem?_eq_some_iff.1 hb).1
      omega
    · cases h1
  rcases hu : P.underlying t with _ | D
  · simp [hu] at h
  · cases D <;> simp [hu] at h
    exact key _ _ h.2.2
section
variable {H : Type} {enc : TypeId × Value → H} {held : Bool}
theorem open_struct {base n : Nat} {t : TypeId} {v : Value} {d : DataW H} {p : List MemPlace} {fs : Array Field} {ks : List CT} (hu : P.underlying t = some (.struct fs)) (hs : shape P n t = some ks)
    (hok : Value.okWide P W .any base t v) (h : DataW.Trod enc P W 0 (fun _ => true) held t v d p) {m : Map} {A : AHeap} (hr : Rel m A W) (hf : ∀ id, A.size ≤ id → m id = none) (hh : ∀ id, ¬ A.hot id) :
    ∃ m' A' avs, Opened m A W m' A' ∧ VRel m' (.agg (List.toArray avs)) v ∧ Reads A' ks avs := by
  unfold Value.okWide at hok
  rw [hu] at hok
  obtain ⟨cs, rfl, _, ts, _, _, hrow⟩ := hok
  obtain ⟨fuel, h⟩ := h
  have hg := trod_good (W := W) n t ks hs fuel _ _ h (fun a l c hm => by
    obtain ⟨i, hi⟩ := List.getElem?_of_mem hm
    obtain ⟨u, _, hc⟩ := hrow i _ (by simpa [Value.cells] using hi)
    exact cell_heap hc)
  obtain ⟨m', A', avs, h1, h2, h3⟩ := hg.build m A hr hf hh
  exact ⟨m', A', avs, h1, .agg' (VRelL.array (by simpa [Value.cells] using h2)), h3⟩
theorem open_slice {base n : Nat} {t e : TypeId} {v : Value} {d : DataW H} {p : List MemPlace} {ks : List CT} (hu : P.underlying t = some (.slice e)) (hs : shape P n t = some ks)
    (hok : Value.okWide P W .any base t v) (h : DataW.Trod enc P W 0 (fun _ => true) held t v d p) {m : Map} {A : AHeap} (hr : Rel m A W) (hf : ∀ id, A.size ≤ id → m id = none) (hh : ∀ id, ¬ A.hot id) :
    ∃ m' A' a, Opened m A W m' A' ∧ VRel m' a v ∧ Reads A' ks [a] := by
  unfold Value.okWide at hok
  rw [hu] at hok
  simp only at hok
  have hv : v.cells = #[v] := by
    unfold Cell.okWide Cell.ok at hok
    rw [hu] at hok
    cases v <;> first | rfl | (simp at hok)
  obtain ⟨fuel, h⟩ := h
  rw [hv] at h
  have hg := trod_good (W := W) n t ks hs fuel _ _ h (fun a l c hm => by
    have : v = .slice (some a) l c := (by simpa using hm : Value.slice (some a) l c = v).symm
    subst this
    exact cell_heap hok)
  obtain ⟨m', A', avs, h1, h2, h3⟩ := hg.build m A hr hf hh
  have hl := h2.1
  match avs, hl, h2, h3 with
  | [a], _, h2, h3 => exact ⟨m', A', a, h1, by simpa using h2.2 0 (by simp), h3⟩
end
/-- A contract, avs the model's calls. -/
theorem calls_of {f : FuncId} {fn : Func} {c : Code} {args args' : Array Value} {A : AHeap} {m : Map} {Kk : Value → AHeap → Prop} (hf : P.funcs[f]? = some fn) (hb : fn.body = some c) (hn : (fn.name == "runtime.NumGoroutine") = false)
    (h : callA P f args A Kk) (hr : Rel m A W) (hfree : ∀ id, A.size ≤ id → m id = none) (hh : ∀ id, ¬ A.hot id) (hv : VRels m args args') :
    Calls P f args' W fun e W' => ∃ v v', e = .returned v' ∧ (∃ m' A', Kk v A' ∧ VRel m' v v') ∧ RowKit.Below W.heap.size W W' := by
  obtain ⟨r, A', ⟨_, hs⟩, hk⟩ := h
  have h1 := hs m W args' hr (fun id h _ => hfree id h) hv
  have hcf : (callFunc f args').run P W = .ok (.enter f args') W := by
    unfold callFunc
    simp only [Sem.run_bind, run_program, Result.andThen_ok, hf, hn, hb]
    rfl
  unfold Invokes at h1
  rw [hcf] at h1
  refine Calls.mono h1 fun e W' h2 => ?_
  cases e with
  | returned v' =>
    obtain ⟨m', hv', st⟩ := h2
    refine ⟨r, v', rfl, ⟨m', A', hk, hv'⟩, ⟨st.os, st.tape, st.output, st.size, fun k hk => ?_⟩⟩
    exact st.kept k hk (fun id l _ _ => hh id)
  | _ => exact h2.elim
theorem opened_nil : Rel (fun _ => none) ⟨[]⟩ W ∧ (∀ id, AHeap.size ⟨[]⟩ ≤ id → (fun _ => none : Map) id = none) ∧ ∀ id, ¬ AHeap.hot ⟨[]⟩ id :=
  ⟨⟨fun _ _ h => (by cases h), fun _ _ _ _ h => (by cases h), fun _ _ _ _ h => (by cases h), fun _ _ _ h => (by cases h), fun _ _ _ _ h => (by cases h)⟩, fun _ _ => rfl, fun id h => by simp [AHeap.hot, AHeap.get, AObj.hot] at h⟩
end Go.Ah

/- What a statement hands in, read as lists. -/
namespace Go.Ah
variable {P : Program} {H : AHeap}
def I64 (n : Int) : Prop := (Lit.int .i64 n).wf = true
theorem I64.bounds {n : Int} (h : I64 n) : -9223372036854775808 ≤ n ∧ n ≤ 9223372036854775807 := by
  unfold I64 Lit.wf at h
  simp [IntKind.min, IntKind.max, IntKind.bits, IntKind.signed] at h
  omega
theorem reads_int {k : IntKind} {ks : List CT} {cs : List Value} (h : Reads H (.int k :: ks) cs) : ∃ n cs', cs = .int k n :: cs' ∧ (Lit.int k n).wf = true ∧ Reads H ks cs' := by
  cases h with
  | int a b => exact ⟨_, _, rfl, a, b⟩
theorem reads_bool {ks : List CT} {cs : List Value} (h : Reads H (.bool :: ks) cs) : ∃ b cs', cs = .bool b :: cs' ∧ Reads H ks cs' := by
  cases h with
  | bool b => exact ⟨_, _, rfl, b⟩
theorem reads_str {ks : List CT} {cs : List Value} (h : Reads H (.str :: ks) cs) : ∃ s cs', cs = .string s :: cs' ∧ s.size ≤ maxLen ∧ Reads H ks cs' := by
  cases h with
  | str a b => exact ⟨_, _, rfl, a, b⟩
theorem reads_nil {cs : List Value} (h : Reads H [] cs) : cs = [] := by cases h; rfl
theorem reads_sl {e : Nat} {es ks : List CT} {cs : List Value} (h : Reads H (.sl e es :: ks) cs) :
    ∃ v cs' rows, cs = v :: cs' ∧ Row H e v rows.length rows.flatten ∧ (∀ i, i < rows.length → (nth rows i []).length = e ∧ Reads H es (nth rows i [])) ∧ Reads H ks cs' ∧ rows.length ≤ maxLen := by
  cases h with
  | snil h => exact ⟨_, _, [], rfl, Row.nil, fun i hi => by simp at hi, h, Nat.zero_le _⟩
  | sl rows a b c d e1 f g h =>
    subst c
    have hl := flat_len _ rows f
    have hb : rows.length < big := by unfold big; unfold maxLen at d; omega
    exact ⟨_, _, rows, rfl, ⟨hb, hl, .inr ⟨_, 0, unk, rows.flatten, rfl, a, by rw [b]; rfl, by rw [b]; rfl, by omega, by rw [List.drop_zero, List.take_of_length_le (by omega)]⟩⟩, fun i hi => ⟨f i hi, g i hi⟩, h, d⟩
theorem rows_ints : ∀ (rows : List (List Value)), (∀ i, i < rows.length → Reads H [.int .i64] (nth rows i [])) → ∃ xs : List Int, xs.length = rows.length ∧ rows.flatten = xs.map (Value.int .i64) ∧ ∀ x ∈ xs, I64 x
  | [], _ => ⟨[], rfl, rfl, fun x h => by cases h⟩
  | r :: rs, h => by
    obtain ⟨xs, h1, h2, h3⟩ := rows_ints rs (fun i hi => h (i + 1) (by simpa using hi))
    obtain ⟨n, cs, e, h4, h5⟩ := reads_int (h 0 (by simp))
    have e2 := reads_nil h5
    subst e2
    have e : r = [.int .i64 n] := e
    subst e
    refine ⟨n :: xs, by simp [h1], by simp [h2], fun x hx => ?_⟩
    rcases List.mem_cons.1 hx with rfl | hx
    · exact h4
    · exact h3 x hx
theorem reads_ints {ks : List CT} {cs : List Value} (h : Reads H (.sl 1 [.int .i64] :: ks) cs) : ∃ v xs cs', cs = v :: cs' ∧ Ints H v xs ∧ (∀ x ∈ xs, I64 x) ∧ Reads H ks cs' := by
  obtain ⟨v, cs', rows, rfl, h1, h2, h3, _⟩ := reads_sl h
  obtain ⟨xs, h4, h5, h6⟩ := rows_ints rows fun i hi => (h2 i hi).2
  rw [h5, ← h4] at h1
  exact ⟨v, xs, cs', rfl, h1, h6, h3⟩
theorem rows_intss : ∀ (rows : List (List Value)), (∀ i, i < rows.length → Reads H [.sl 1 [.int .i64]] (nth rows i [])) → ∃ (vs : List Value) (xss : List (List Int)), vs.length = rows.length ∧ xss.length = rows.length ∧ rows.flatten = vs ∧ (∀ i, i < xss.length → Ints H (nth vs i undef) (nth xss i [])) ∧ ∀ xs ∈ xss, ∀ x ∈ xs, I64 x
  | [], _ => ⟨[], [], rfl, rfl, rfl, fun i h => by simp at h, fun x h => by cases h⟩
  | r :: rs, h => by
    obtain ⟨vs, xss, h1, h2, h3, h4, h7⟩ := rows_intss rs (fun i hi => h (i + 1) (by simpa using hi))
    obtain ⟨v, xs, cs', e, h5, h8, h6⟩ := reads_ints (h 0 (by simp))
    have e2 := reads_nil h6
    subst e2
    have e : r = [v] := e
    subst e
    refine ⟨v :: vs, xs :: xss, by simp [h1], by simp [h2], by simp [h3], fun i hi => ?_, fun ys hy => ?_⟩
    · cases i with
      | zero => exact h5
      | succ i => exact h4 i (by simpa using hi)
    · rcases List.mem_cons.1 hy with rfl | hy
      · exact h8
      · exact h7 ys hy
theorem reads_intss {ks : List CT} {cs : List Value} (h : Reads H (.sl 1 [.sl 1 [.int .i64]] :: ks) cs) : ∃ v vs xss cs', cs = v :: cs' ∧ IntsS H v vs xss ∧ (∀ xs ∈ xss, ∀ x ∈ xs, I64 x) ∧ Reads H ks cs' := by
  obtain ⟨v, cs', rows, rfl, h1, h2, h3, _⟩ := reads_sl h
  obtain ⟨vs, xss, h4, h5, h6, h7, h8⟩ := rows_intss rows fun i hi => (h2 i hi).2
  rw [h6, ← h4] at h1
  exact ⟨v, vs, xss, cs', rfl, ⟨h1, by omega, h7⟩, h8, h3⟩
end Go.Ah

/- What stands at a place of the abstract heap, carried along. -/
namespace Go.Ah
variable {P : Program} {H G : AHeap} {id k : Nat} {o : AObj}
structure At (G : AHeap) (id : Nat) (o : AObj) : Prop where
  lt : id < G.size
  get : G.get id = o
theorem At.keep (h : At H id o) (hk : AKeep H G) : At G id o := ⟨Nat.lt_of_lt_of_le h.lt hk.size, by rw [hk.get id h.lt]; exact h.get⟩
theorem At.push (h : At H id o) (x : AObj) : At (H.push x) id o := h.keep (AKeep.push _ _)
theorem At.new (x : AObj) : At (H.push x) H.size x := ⟨by rw [size_push]; omega, get_push_same _ _⟩
theorem At.setN {x : AObj} (h : At H id o) (hk : k ≠ id) : At (H.set k x) id o := ⟨by rw [size_set]; exact h.lt, by rw [get_set_ne _ _ _ _ hk]; exact h.get⟩
theorem At.setE (h : At H id o) (x : AObj) : At (H.set id x) id x := ⟨by rw [size_set]; exact h.lt, get_set_same _ _ _ h.lt⟩
theorem At.p {l : List AObj} (k : Nat) (x : AObj) (hk : l[k]? = some x) : At (pushes H l) (H.size + k) x := by
  have := (List.getElem?_eq_some_iff.1 hk).1
  exact ⟨by rw [size_p]; omega, by rw [get_p, List.getD_eq_getElem?_getD, hk]; rfl⟩
theorem At.p0 {x : AObj} {l : List AObj} : At (pushes H (x :: l)) H.size x := At.p 0 x rfl
theorem At.of {x : AObj} (h : At H id x) (e : G.get id = H.get id) (hs : H.size ≤ G.size) : At G id x := ⟨Nat.lt_of_lt_of_le h.lt hs, e.trans h.get⟩
theorem AKeep.p {l : List AObj} : AKeep H (pushes H l) := keep_p
theorem AKeep.push1 {x : AObj} (h : AKeep (H.push x) G) : AKeep H G := (AKeep.push _ _).trans h
theorem AKeep.push2 {x y : AObj} (h : AKeep ((H.push x).push y) G) : AKeep H G := h.push1.push1
theorem AKeep.p1 {l : List AObj} (h : AKeep (pushes H l) G) : AKeep H G := keep_p.trans h
end Go.Ah

/- Slices of structs of numbers, texts and bools. -/
namespace Go.Ah
variable {P : Program} {H G G' : AHeap} {α : Type}
/-- How a datum lies in cells. -/
class Enc (α : Type) where
  sz : Nat
  enc : α → List Value
  len : ∀ a, (enc a).length = sz
  one : ∀ a, (enc a).all (·.oneCell') = true
  pos : 0 < sz
  d : α
instance encInt : Enc Int := ⟨1, fun n => [.int .i64 n], fun _ => rfl, fun _ => rfl, Nat.one_pos, 0⟩
instance encStr : Enc ByteArray := ⟨1, fun s => [.string s], fun _ => rfl, fun _ => rfl, Nat.one_pos, ⟨#[]⟩⟩
instance encBool : Enc Bool := ⟨1, fun b => [.bool b], fun _ => rfl, fun _ => rfl, Nat.one_pos, false⟩
instance encProd {α β : Type} [Enc α] [Enc β] : Enc (α × β) := ⟨Enc.sz α + Enc.sz β, fun x => Enc.enc x.1 ++ Enc.enc x.2, fun x => by rw [List.length_append, Enc.len, Enc.len], fun x => by rw [List.all_append, Enc.one, Enc.one]; rfl, Nat.add_pos_left Enc.pos _, (Enc.d, Enc.d)⟩
@[go_sem] theorem enc_int (n : Int) : Enc.enc n = [Value.int .i64 n] := (rfl)
@[go_sem] theorem enc_str (s : ByteArray) : Enc.enc s = [Value.string s] := (rfl)
@[go_sem] theorem enc_bool (b : Bool) : Enc.enc b = [Value.bool b] := (rfl)
@[go_sem] theorem enc_prod {α β : Type} [Enc α] [Enc β] (x : α × β) : Enc.enc x = Enc.enc x.1 ++ Enc.enc x.2 := (rfl)
def encs [Enc α] (xs : List α) : List Value := xs.flatMap Enc.enc
variable [Enc α] {xs : List α} {v : Value} {i j : Nat}
@[simp] theorem encs_nil : encs ([] : List α) = [] := rfl
@[simp] theorem encs_cons {x : α} : encs (x :: xs) = Enc.enc x ++ encs xs := rfl
theorem encs_len (xs : List α) : (encs xs).length = xs.length * Enc.sz α := by
  induction xs with
  | nil => simp
  | cons x r ih => rw [encs_cons, List.length_append, ih, Enc.len, List.length_cons, Nat.add_mul]; omega
theorem encs_app (xs ys : List α) : encs (xs ++ ys) = encs xs ++ encs ys := by simp [encs]
theorem encs_one_cell (xs : List α) : (encs xs).all (·.oneCell') = true := by
  induction xs with
  | nil => rfl
  | cons x r ih => rw [encs_cons, List.all_append, ih, Enc.one]; rfl
theorem encs_get : ∀ (xs : List α) (i j : Nat), i < xs.length → j < Enc.sz α → (encs xs).getD (i * Enc.sz α + j) undef = (Enc.enc (nth xs i Enc.d)).getD j undef
  | [], i, j, hi, _ => by simp at hi
  | x :: r, 0, j, _, hj => by
    rw [encs_cons, Nat.zero_mul, Nat.zero_add]
    simp only [List.getD_eq_getElem?_getD, nth, List.getElem?_cons_zero, Option.getD_some]
    rw [List.getElem?_append_left (by rw [Enc.len]; exact hj)]
  | x :: r, i + 1, j, hi, hj => by
    have ih := encs_get r i j (by simpa using hi) hj
    rw [encs_cons]
    simp only [List.getD_eq_getElem?_getD, nth, List.getElem?_cons_succ] at ih ⊢
    have h1 : (i + 1) * Enc.sz α = Enc.sz α + i * Enc.sz α := by rw [Nat.add_mul]; omega
    rw [List.getElem?_append_right (by rw [Enc.len, h1]; omega), Enc.len, h1, show Enc.sz α + i * Enc.sz α + j - Enc.sz α = i * Enc.sz α + j by omega]
    exact ih
theorem encs_part : ∀ (xs : List α) (i : Nat), i < xs.length → ((encs xs).drop (i * Enc.sz α)).take (Enc.sz α) = Enc.enc (nth xs i Enc.d)
  | [], i, hi => by simp at hi
  | x :: r, 0, _ => by
    rw [encs_cons, Nat.zero_mul, List.drop_zero]
    have h := Enc.len x
    show List.take _ _ = Enc.enc x
    rw [← h, List.take_left']
    rfl
  | x :: r, i + 1, hi => by
    have ih := encs_part r i (by simpa using hi)
    have h1 : (i + 1) * Enc.sz α = (Enc.enc x).length + i * Enc.sz α := by rw [Enc.len, Nat.add_mul]; omega
    rw [encs_cons, h1, List.drop_append]
    have : (Enc.enc x).drop ((Enc.enc x).length + i * Enc.sz α) = [] := List.drop_eq_nil_of_le (by omega)
    rw [this, List.nil_append, show (Enc.enc x).length + i * Enc.sz α - (Enc.enc x).length = i * Enc.sz α by omega]
    exact ih
theorem encs_set : ∀ (xs : List α) (i j : Nat) (x : Value) (a : α), i < xs.length → j < Enc.sz α → Enc.enc a = (Enc.enc (nth xs i Enc.d)).set j x → (encs xs).set (i * Enc.sz α + j) x = encs (xs.set i a)
  | [], i, j, x, a, hi, _, _ => by simp at hi
  | y :: r, 0, j, x, a, _, hj, he => by
    rw [encs_cons, Nat.zero_mul, Nat.zero_add, List.set_cons_zero, encs_cons, he, List.set_append_left _ _ (by rw [Enc.len]; exact hj)]
    rfl
  | y :: r, i + 1, j, x, a, hi, hj, he => by
    have ih := encs_set r i j x a (by simpa using hi) hj he
    have h1 : (i + 1) * Enc.sz α = Enc.sz α + i * Enc.sz α := by rw [Nat.add_mul]; omega
    rw [encs_cons, List.set_append_right _ _ (by rw [Enc.len, h1]; omega), Enc.len, h1, show Enc.sz α + i * Enc.sz α + j - Enc.sz α = i * Enc.sz α + j by omega, ih]
    rfl
/-- v is a slice that reads xs. -/
def Fl (H : AHeap) (v : Value) (xs : List α) : Prop := Row H (Enc.sz α) v xs.length (encs xs)
/-- v is a slice of our own that holds xs. -/
def FlH (lo : Nat) (H : AHeap) (v : Value) (xs : List α) : Prop := Hd lo H (Enc.sz α) v xs.length (encs xs)
theorem FlH.fl {lo : Nat} (h : FlH lo H v xs) : Fl H v xs := Hd.row h
theorem Fl.keep (h : Fl H v xs) (hk : AKeep H G) : Fl G v xs := Row.keep h hk
theorem FlH.keep {lo : Nat} (h : FlH lo H v xs) (hk : AKeep H G) : FlH lo G v xs := Hd.keep h hk
theorem FlH.keepF {lo : Nat} (h : FlH lo H v xs) (hs : H.size ≤ G.size) (hf : ∀ id, idOf v = some id → G.get id = H.get id) : FlH lo G v xs := Hd.keepF h hs hf
theorem FlH.le {lo lo' : Nat} (h : FlH lo H v xs) (hl : lo' ≤ lo) : FlH lo' H v xs := Hd.le h hl
theorem FlH.above {lo : Nat} (h : FlH lo H v xs) {id : Nat} (e : idOf v = some id) : lo ≤ id := Hd.above h id e
theorem FlH.low {lo : Nat} (h : FlH lo H v xs) {id : Nat} (e : idOf v = some id) : id < H.size := Hd.low h id e
theorem FlH.setL {lo k : Nat} {o : AObj} (h : FlH lo H v xs) (hk : k < lo) : FlH lo (H.set k o) v xs := h.keepF (by rw [size_set]; exact Nat.le_refl _) fun id e => get_set_ne _ _ _ _ (by have := h.above e; omega)
theorem Fl.slice (h : Fl H v xs) : ∃ a m c, v = .slice a m c := Row.slice h
theorem FlH.slice {lo : Nat} (h : FlH lo H v xs) : ∃ a m c, v = .slice a m c := Hd.slice h
theorem Fl.lt (h : Fl H v xs) : xs.length < big := h.1
theorem Fl.nil : Fl H (.slice none 0 0) ([] : List α) := Row.nil
theorem FlH.nil {lo : Nat} : FlH lo H (.slice none 0 0) ([] : List α) := ⟨by unfold big; simp, by simp, .inl ⟨rfl, rfl⟩⟩
theorem FlH.lit {sz : Nat} (hs : sz = Enc.sz α) : FlH H.size (H.push (.rw sz [])) (.slice (some ⟨H.size, 0, none⟩) 0 0) ([] : List α) := by
  subst hs
  exact Hd.of (.inr own_lit)
theorem fl_len {t : TypeId} {Kk : Value → AHeap → Prop} (h : Fl H v xs) (hd : isSliceD (P.underlying t) = true) {G : AHeap} : aBuiltin P G .len [t] [v] Kk = Kk (.int .i64 xs.length) G := row_len h hd
theorem fl_index {t : TypeId} {n : Nat} {K : Value → Prop} {kd : IntKind} (h : Fl H v xs) (hn : Enc.sz α = n) (hs : elemSz P t = some n) (hi : i < xs.length) : aIndexAddr P t v (.int kd i) K = K (elemPtr v (i * n)) := by
  subst hn
  rw [row_index h hs]
  simp; omega
theorem Fl.fit (xs : List α) (hi : i < xs.length) : i * Enc.sz α + Enc.sz α ≤ (encs xs).length := by
  rw [encs_len]
  have := Nat.mul_le_mul_right (Enc.sz α) hi
  rw [Nat.succ_mul] at this
  exact this
theorem fl_load {t : TypeId} {n : Nat} {K : Value → Prop} (h : Fl H v xs) (hn : Enc.sz α = n) (ht : tVar P t = some (n, true)) (hi : i < xs.length) : aLoad P H t (elemPtr v (i * n)) K = K (.agg (Enc.enc (nth xs i Enc.d)).toArray) := by
  subst hn
  rw [row_loadA h ht Enc.pos (Fl.fit xs hi), encs_part xs i hi]
theorem fl_loadf {t : TypeId} {n : Nat} {K : Value → Prop} (h : Fl H v xs) (hn : Enc.sz α = n) (ht : tVar P t = some (1, false)) (hi : i < xs.length) (hj : j < n) : aLoad P H t (elemPtr v (i * n + j)) K = K ((Enc.enc (nth xs i Enc.d)).getD j undef) := by
  subst hn
  have := Fl.fit xs hi
  rw [row_load h ht (by omega), encs_get xs i j hi hj]
theorem fl_load0 {t : TypeId} {n : Nat} {K : Value → Prop} (h : Fl H v xs) (hn : Enc.sz α = n) (ht : tVar P t = some (1, false)) (hi : i < xs.length) : aLoad P H t (elemPtr v (i * n)) K = K ((Enc.enc (nth xs i Enc.d)).getD 0 undef) := by
  have := fl_loadf (j := 0) (K := K) h hn ht hi (by have := Enc.pos (α := α); omega)
  rwa [Nat.add_zero] at this
theorem elem_field {k fo sz : Nat} {b : Bool} {Kk : Value → AHeap → Prop} (h : Fl H v xs) (h0 : 0 < xs.length) : fieldK Kk G (elemPtr v k) (some (fo, sz, b)) = (sz ≠ 0 ∧ Kk (elemPtr v (k + fo)) G) := by
  obtain ⟨_, _, h3⟩ := h
  rcases h3 with ⟨rfl, h⟩ | ⟨id, off, cap, cs, rfl, _⟩
  · omega
  · show fieldK Kk G (.pointer (some ⟨id, off + k, none⟩)) _ = (sz ≠ 0 ∧ Kk (.pointer (some ⟨id, off + (k + fo), none⟩)) G)
    rw [fieldK_ptr, Nat.add_assoc]
/-- A field of an element is written. -/
theorem fl_store {t : TypeId} {lo n : Nat} {a : α} {x : Value} {K : AHeap → Prop} (h : FlH lo G v xs) (hn : Enc.sz α = n) (hi : i < xs.length) (hj : j < n) (ht : tSz P t = some 1) (hx : x.cells = #[x]) (hx1 : x.oneCell' = true) (he : Enc.enc a = (Enc.enc (nth xs i Enc.d)).set j x)
    (hK : ∀ G', FlH lo G' v (xs.set i a) → G'.size = G.size → (∀ id, idOf v ≠ some id → G'.get id = G.get id) → K G') : aStore P G t (elemPtr v (i * n + j)) x K := by
  subst hn
  have hfit := Fl.fit xs hi
  refine hd_store h ht (by rw [hx]; rfl) (by rw [hx]; simp [hx1]) (by rw [← encs_len]; omega) (by omega) fun G' h1 h2 h3 => hK G' ?_ h2 h3
  rw [hx] at h1
  simp only [splice] at h1
  rw [encs_set xs i j x a hi hj he] at h1
  unfold FlH
  rw [List.length_set]; exact h1
/-- An element is written whole. -/
theorem splice_mid : ∀ (vs cs : List Value) (A B C : List Value), cs = A ++ B ++ C → vs.length = B.length → splice cs A.length vs = A ++ vs ++ C
  | [], cs, A, B, C, h, hl => by
    have : B = [] := List.eq_nil_of_length_eq_zero hl.symm
    subst this h; simp [splice]
  | y :: r, cs, A, [], C, h, hl => by simp at hl
  | y :: r, cs, A, b :: B, C, h, hl => by
    subst h
    simp only [splice]
    have e : (A ++ b :: B ++ C).set A.length y = (A ++ [y]) ++ B ++ C := by
      rw [List.append_assoc, List.set_append_right _ _ (Nat.le_refl _), Nat.sub_self]; simp
    have := splice_mid r _ (A ++ [y]) B C e (by simpa using hl)
    rw [List.length_append] at this
    simp only [List.length_cons, List.length_nil, Nat.zero_add] at this
    rw [this]; simp
theorem encs_splice (xs : List α) (i : Nat) (a : α) (hi : i < xs.length) : splice (encs xs) (i * Enc.sz α) (Enc.enc a) = encs (xs.set i a) := by
  have e : xs = xs.take i ++ nth xs i Enc.d :: xs.drop (i + 1) := by
    rw [← drop_getD xs i Enc.d hi, List.take_append_drop]
  have hl : (encs (xs.take i)).length = i * Enc.sz α := by rw [encs_len, List.length_take, Nat.min_eq_left (by omega)]
  have e2 : encs xs = encs (xs.take i) ++ Enc.enc (nth xs i Enc.d) ++ encs (xs.drop (i + 1)) := by
    conv => lhs; rw [e]
    rw [encs_app, encs_cons, List.append_assoc]
  rw [← hl, splice_mid _ _ _ _ _ e2 (by rw [Enc.len, Enc.len])]
  have e3 : xs.set i a = xs.take i ++ a :: xs.drop (i + 1) := by
    rw [List.set_eq_take_append_cons_drop, if_pos hi]
  rw [e3, encs_app, encs_cons, List.append_assoc]
theorem fl_put {t : TypeId} {lo n : Nat} {a : α} {x : Value} {K : AHeap → Prop} (h : FlH lo G v xs) (hn : Enc.sz α = n) (hi : i < xs.length) (ht : tSz P t = some n) (hx : x.cells.toList = Enc.enc a)
    (hK : ∀ G', FlH lo G' v (xs.set i a) → G'.size = G.size → (∀ id, idOf v ≠ some id → G'.get id = G.get id) → K G') : aStore P G t (elemPtr v (i * n)) x K := by
  subst hn
  have hfit := Fl.fit xs hi
  refine hd_store h ht (by have := Enc.len a; rw [← hx] at this; simpa using this) (by rw [hx]; exact Enc.one a) (by rw [← encs_len]; omega) Enc.pos fun G' h1 h2 h3 => hK G' ?_ h2 h3
  rw [hx, encs_splice xs i a hi] at h1
  unfold FlH
  rw [List.length_set]; exact h1
/-- An append of one element. -/
theorem fl_app {lo by_ sz : Nat} {a : α} {nc : List Value} {Kk : Value → AHeap → Prop} (h : FlH lo G v xs) (hsz : Enc.sz α = sz) (hlo : lo ≤ G.size) (hn : nc = Enc.enc a) (hb : (xs.length + 1) * by_ ≤ 140737488355328) (hb2 : xs.length + 1 < big)
    (hk : ∀ v' G', FlH lo G' v' (xs ++ [a]) → G.size ≤ G'.size → (∀ id, id < G.size → idOf v ≠ some id → G'.get id = G.get id) → (∀ id, idOf v' = some id → idOf v = some id ∨ G.size ≤ id) → Kk v' G') : appK P G sz by_ Kk v nc 1 := by
  subst hn
  subst hsz
  refine hd_app h hlo (by rw [Enc.len, Nat.one_mul]) (Enc.one a) hb hb2 fun v' G' h1 h2 h3 h4 => hk v' G' ?_ h2 h3 h4
  unfold FlH
  rw [List.length_append, encs_app]
  simpa using h1
end Go.Ah

/- Triples of ints; small words on lists. -/
namespace Go.Ah
variable {P : Program} {H : AHeap}
abbrev T3 := Int × Int × Int
theorem sz_t3 : Enc.sz T3 = 3 := rfl
theorem sz_int : Enc.sz Int = 1 := rfl
theorem enc_t3 (x : T3) : Enc.enc x = [.int .i64 x.1, .int .i64 x.2.1, .int .i64 x.2.2] := rfl
theorem tk_succ {α : Type} (xs : List α) (i : Nat) (d : α) (h : i < xs.length) : xs.take (i + 1) = xs.take i ++ [nth xs i d] := by
  rw [List.take_succ_eq_append_getElem h]; simp [nth, List.getD_eq_getElem?_getD, h]
theorem nth_in {α : Type} {xs : List α} {i : Nat} {d : α} (h : i < xs.length) : nth xs i d ∈ xs := by
  simp only [nth, List.getD_eq_getElem?_getD, List.getElem?_eq_getElem h, Option.getD_some]
  exact List.getElem_mem h
def upT (xs : List T3) (i : Nat) : List T3 := xs.take i ++ List.replicate (xs.length - i) (0, 0, 0)
theorem upT_len {xs : List T3} {i : Nat} (hi : i ≤ xs.length) : (upT xs i).length = xs.length := by simp [upT]; omega
theorem upT_set {xs : List T3} {i : Nat} (hi : i < xs.length) : (upT xs i).set i (nth xs i Enc.d) = upT xs (i + 1) := by
  unfold upT
  rw [List.set_append_right _ _ (by simp; omega)]
  have e1 : xs.length - i = (xs.length - (i + 1)) + 1 := by omega
  have e2 : i - (xs.take i).length = 0 := by simp; omega
  rw [e2, e1, List.replicate_succ, List.set_cons_zero, tk_succ _ _ Enc.d hi, List.append_assoc]
  rfl
theorem upT_zero (xs : List T3) : upT xs 0 = List.replicate xs.length (0, 0, 0) := by simp [upT]
theorem upT_all (xs : List T3) : upT xs xs.length = xs := by simp [upT]
theorem encs_rep3 (n : Nat) : encs (List.replicate n ((0, 0, 0) : T3)) = repCells [.int .i64 0, .int .i64 0, .int .i64 0] n := by
  induction n with
  | zero => rfl
  | succ n ih => rw [List.replicate_succ, encs_cons, ih, rep_succ]; rfl
/-- What 'make' lays for triples. -/
theorem made_t3 {xs : List T3} (hb : xs.length < big) : FlH H.size (H.push (.rw 3 (repCells [.int .i64 0, .int .i64 0, .int .i64 0] xs.length))) (.slice (some ⟨H.size, 0, none⟩) xs.length xs.length) (upT xs 0) := by
  rw [upT_zero]
  unfold FlH
  rw [List.length_replicate]
  have hlen : (encs (List.replicate xs.length ((0, 0, 0) : T3))).length = xs.length * 3 := by rw [encs_len, List.length_replicate, sz_t3]
  exact ⟨hb, hlen, .inr ⟨H.size, _, _, rfl, Nat.le_refl _, by rw [size_push]; omega, get_push_same _ _, by rw [← encs_rep3, hlen]; exact Nat.le_refl _, by rw [← encs_rep3, List.take_of_length_le (by rw [hlen]; exact Nat.le_refl _)], by rw [← encs_rep3]; exact encs_one_cell _, fun _ => ⟨Nat.le_refl _, by rw [← encs_rep3, hlen]; exact Nat.le_refl _⟩, fun hu => absurd hb (by unfold unk at hu; unfold big; omega)⟩⟩
theorem rows_t3 : ∀ (rows : List (List Value)), (∀ i, i < rows.length → Reads H [.int .i64, .int .i64, .int .i64] (nth rows i [])) → ∃ xs : List T3, xs.length = rows.length ∧ rows.flatten = encs xs ∧ ∀ x ∈ xs, I64 x.1 ∧ I64 x.2.1 ∧ I64 x.2.2
  | [], _ => ⟨[], rfl, rfl, fun x h => by cases h⟩
  | r :: rs, h => by
    obtain ⟨xs, h1, h2, h6⟩ := rows_t3 rs (fun i hi => h (i + 1) (by simpa using hi))
    obtain ⟨a, cs, e, ha, h5⟩ := reads_int (h 0 (by simp))
    obtain ⟨b, cs, rfl, hb, h5⟩ := reads_int h5
    obtain ⟨c, cs, rfl, hc, h5⟩ := reads_int h5
    have e2 := reads_nil h5
    subst e2
    have e : r = [.int .i64 a, .int .i64 b, .int .i64 c] := e
    subst e
    refine ⟨(a, b, c) :: xs, by simp [h1], by simp [h2, enc_t3], fun x hx => ?_⟩
    rcases List.mem_cons.1 hx with rfl | hx
    · exact ⟨ha, hb, hc⟩
    · exact h6 x hx
theorem reads_t3 {ks : List CT} {cs : List Value} (h : Reads H (.sl 3 [.int .i64, .int .i64, .int .i64] :: ks) cs) : ∃ v xs cs', cs = v :: cs' ∧ Fl (α := T3) H v xs ∧ (∀ x ∈ xs, I64 x.1 ∧ I64 x.2.1 ∧ I64 x.2.2) ∧ Reads H ks cs' := by
  obtain ⟨v, cs', rows, rfl, h1, h2, h3, _⟩ := reads_sl h
  obtain ⟨xs, h4, h5, h6⟩ := rows_t3 rows fun i hi => (h2 i hi).2
  rw [h5, ← h4] at h1
  exact ⟨v, xs, cs', rfl, h1, h6, h3⟩
/-- The place of the first element that meets a test, -1 if there is none. -/
def idxF {α : Type} (p : α → Bool) : List α → Nat → Int
  | [], _ => -1
  | x :: r, i => if p x = true then i else idxF p r (i + 1)
theorem idxF_any {α : Type} {p : α → Bool} : ∀ (xs : List α) (i : Nat), decide (0 ≤ idxF p xs i) = xs.any p
  | [], i => by simp [idxF]
  | x :: r, i => by
    unfold idxF
    by_cases h : p x = true
    · simp [h]
    · rw [if_neg h, idxF_any r (i + 1)]; simp [h]
end Go.Ah

/- Parts of slices that are read on; places of addresses. -/
namespace Go.Ah
variable {P : Program} {H G : AHeap}
theorem objOf_elem {v : Value} {k id : Nat} (h : objOf (elemPtr v k) = some id) : idOf v = some id := by
  unfold elemPtr at h
  split at h
  · cases h; rfl
  · cases h
theorem objOf_slice {a : Option Addr} {m c id : Nat} (h : objOf (.slice a m c) = some id) (hs : ∀ x, a = some x → x.spot = none) : idOf (.slice a m c) = some id := by
  cases a with
  | none => cases h
  | some x =>
    obtain ⟨b, o, s⟩ := x
    have := hs _ rfl
    simp only at this
    subst this
    cases h; rfl
theorem Row.objOf {sz n id : Nat} {v : Value} {css : List Value} (h : Row G sz v n css) (e : objOf v = some id) : idOf v = some id := by
  obtain ⟨_, _, ⟨rfl, _⟩ | ⟨_, _, _, _, rfl, _⟩⟩ := h
  · cases e
  · cases e; rfl
/-- What stands from the k-th element on. -/
theorem row_drop {t : TypeId} {kd : IntKind} {sz n k : Nat} {v : Value} {css : List Value} {K : Value → Prop} (h : Row G sz v n css) (he : elemSz P t = some sz) (hk : k ≤ n) (hK : ∀ v', Row G sz v' (n - k) (css.drop (k * sz)) → (∀ id, idOf v' = some id → idOf v = some id) → K v') :
    aSlice P G t v (some (.int kd k)) none none K := by
  obtain ⟨hb, hl, ⟨rfl, rfl⟩ | ⟨id, off, cap, cs, rfl, hid, hc, hz, hle, ht⟩⟩ := h
  · obtain rfl : k = 0 := by omega
    unfold aSlice
    unfold elemSz at he
    rcases hu : P.underlying t with _ | D
    · rw [hu] at he; cases he
    rw [hu] at he
    cases D <;> first | (cases he; done) | skip
    simp only at he
    exact ⟨by rw [he]; rfl, rfl, rfl, rfl, hK _ ⟨hb, by simpa using hl, .inl ⟨rfl, rfl⟩⟩ fun id e => by cases e⟩
  · have hu : isSliceD (P.underlying t) = true := by
      unfold elemSz at he
      rcases hu : P.underlying t with _ | D
      · rw [hu] at he; cases he
      · rw [hu] at he; cases D <;> first | (cases he; done) | rfl
    rw [slice_slice hu, he]
    have e1 : ((k : Int)).toNat = k := by omega
    have e2 : ((n : Int) - k).toNat = n - k := by omega
    simp only [go_sem]
    refine ⟨hz, by omega, by omega, by omega, ?_⟩
    rw [e1, e2]
    have hkn : k * sz + (n - k) * sz = n * sz := by rw [← Nat.add_mul]; congr 1; omega
    refine hK _ ⟨by omega, by rw [List.length_drop]; omega, .inr ⟨id, off + k * sz, _, cs, rfl, hid, hc, hz, by omega, ?_⟩⟩ fun id' e => by cases e; rfl
    rw [← ht, List.drop_take, List.drop_drop]
    congr 1
    omega
theorem FlH.take {α : Type} [Enc α] {lo : Nat} {v : Value} {xs : List α} {t : TypeId} {kd : IntKind} {k sz : Nat} {K : Value → Prop} (h : FlH lo G v xs) (hsz : Enc.sz α = sz) (he : elemSz P t = some sz) (hk : k ≤ xs.length) (hK : ∀ v', FlH lo G v' (xs.take k) → idOf v' = idOf v → K v') :
    aSlice P G t v none (some (.int kd k)) none K := by
  subst hsz
  refine hd_cut h he hk fun v' h1 h2 => hK v' ?_ h2
  unfold FlH
  rw [List.length_take, Nat.min_eq_left hk]
  have e : (encs xs).take (k * Enc.sz α) = encs (xs.take k) := by
    have e1 : encs xs = encs (xs.take k) ++ encs (xs.drop k) := by rw [← encs_app, List.take_append_drop]
    rw [e1, List.take_left' (by rw [encs_len, List.length_take, Nat.min_eq_left hk])]
  rw [← e]; exact h1
theorem Fl.drop {α : Type} [Enc α] {v : Value} {xs : List α} {t : TypeId} {kd : IntKind} {k sz : Nat} {K : Value → Prop} (h : Fl G v xs) (hsz : Enc.sz α = sz) (he : elemSz P t = some sz) (hk : k ≤ xs.length) (hK : ∀ v', Fl G v' (xs.drop k) → (∀ id, idOf v' = some id → idOf v = some id) → K v') :
    aSlice P G t v (some (.int kd k)) none none K := by
  subst hsz
  refine row_drop h he hk fun v' h1 h2 => hK v' ?_ h2
  unfold Fl
  rw [List.length_drop]
  have e : (encs xs).drop (k * Enc.sz α) = encs (xs.drop k) := by
    have e1 : encs xs = encs (xs.take k) ++ encs (xs.drop k) := by rw [← encs_app, List.take_append_drop]
    rw [e1, List.drop_left' (by rw [encs_len, List.length_take, Nat.min_eq_left hk])]
  rw [← e]; exact h1
/-- A slice is appended to a row of one's own. -/
theorem fl_apps {α : Type} [Enc α] {lo by_ sz : Nat} {v u : Value} {xs ys : List α} {t2 : TypeId} {Kk : Value → AHeap → Prop} (h : FlH lo G v xs) (g : Fl G u ys) (hsz : Enc.sz α = sz) (hd : isSliceD (P.underlying t2) = true) (hlo : lo ≤ G.size) (hb : (xs.length + ys.length) * by_ ≤ 140737488355328) (hb2 : xs.length + ys.length < big)
    (hk : ∀ v' G', FlH lo G' v' (xs ++ ys) → G.size ≤ G'.size → (∀ id, id < G.size → idOf v ≠ some id → G'.get id = G.get id) → (∀ id, idOf v' = some id → idOf v = some id ∨ G.size ≤ id) → Kk v' G') : aNews P G t2 sz u (appK P G sz by_ Kk v) := by
  subst hsz
  rw [row_news g hd]
  refine hd_app h hlo (by rw [encs_len]) (encs_one_cell ys) hb hb2 fun v' G' h1 h2 h3 h4 => hk v' G' ?_ h2 h3 h4
  unfold FlH
  rw [List.length_append, encs_app]
  exact h1
/-- A slice is appended to an empty literal: nothing that was there turns. -/
theorem fl_lit_apps {α : Type} [Enc α] {lo by_ sz id : Nat} {u : Value} {ys : List α} {t2 : TypeId} {Kk : Value → AHeap → Prop} (hg : At G id (.rw sz [])) (hl : lo ≤ id) (g : Fl G u ys) (hsz : Enc.sz α = sz) (hd : isSliceD (P.underlying t2) = true) (hb : ys.length * by_ ≤ 140737488355328) (hb2 : ys.length < big)
    (hk : ∀ v' G', FlH lo G' v' ys → AKeep G G' → (∀ i, idOf v' = some i → i = id ∨ G.size ≤ i) → Kk v' G') : aNews P G t2 sz u (appK P G sz by_ Kk (.slice (some ⟨id, 0, none⟩) 0 0)) := by
  subst hsz
  have hlt := hg.lt
  rw [row_news g hd]
  rcases Nat.eq_zero_or_pos ys.length with h0 | h0
  · have : ys = [] := List.eq_nil_of_length_eq_zero h0
    subst this
    refine app_none (by simp) (by simp) (hk _ _ ⟨by unfold big; simp, by simp, .inr ⟨id, 0, [], rfl, hl, hg.lt, hg.get, by simp, by simp, rfl, fun _ => ⟨Nat.le_refl _, by simp⟩, fun hu => by simp [unk] at hu⟩⟩ (AKeep.refl _) fun i e => .inl (by cases e; rfl))
  · refine app_full (cs := []) (by rw [hg.get]; rfl) (by omega) (by unfold unk; omega) (by rw [Nat.zero_add]; exact hb) (by rw [Nat.zero_add]; unfold big at hb2; omega) h0 (by simp) ?_
    rw [Nat.zero_add]
    refine hk _ _ ?_ (AKeep.push _ _) fun i e => .inr (by cases e; exact Nat.le_refl _)
    have hd0 : (([] : List Value).drop 0).take (0 * Enc.sz α) ++ encs ys = encs ys := by simp
    rw [hd0]
    exact ⟨hb2, encs_len ys, .inr ⟨G.size, unk, _, rfl, by omega, by rw [size_push]; omega, get_push_same _ _, by rw [encs_len]; exact Nat.le_refl _, by rw [List.take_of_length_le (by rw [encs_len]; exact Nat.le_refl _)], encs_one_cell ys, fun hu => by simp at hu, fun _ => rfl⟩⟩
end Go.Ah

/- The library's sort of ints, out of the kit's contract, over the abstract heap. -/
namespace Go.Ah
open Go.Sort
variable {P : Program} {H G : AHeap}
/-- New blocks behind all others: nothing turns. -/
theorem Rel.grow {m : Map} {w : World} (h : Rel m H w) (os : Array Obj) : Rel m H (Sort.grow w os) := by
  have hb : ∀ {id l}, m id = some l → l.blk < w.heap.size := fun hm => h.dom _ _ hm
  refine ⟨fun id l hm => by rw [size_grow]; have := hb hm; omega, fun id l e cs hm hg => ?_, fun id l e cs hm hg => ?_, fun id l es hm hg => ?_, h.apart⟩
  · obtain ⟨a, b⟩ := h.ro id l e cs hm hg
    exact ⟨a, fun j hj => by rw [cell?_grow w os _ (hb hm)]; exact b j hj⟩
  · obtain ⟨a, b, c, d⟩ := h.rw id l e cs hm hg
    exact ⟨a, b, fun j hj => by rw [cell?_grow w os _ (hb hm)]; exact c j hj, fun j hj => by rw [cell?_grow w os _ (hb hm), frozen?_grow w os _ (hb hm)]; exact d j hj⟩
  · obtain ⟨es', clk, h1, h2⟩ := h.mp id l es hm hg
    exact ⟨es', clk, by rw [heap_grow_old w os (hb hm)]; exact h1, h2⟩
theorem Step.more {m m' : Map} {H' : AHeap} {w w' : World} (h : Step m H w m' H' w') (os : Array Obj) : Step m H w m' H' (Sort.grow w' os) :=
  ⟨h.rel.grow os, h.ext, h.new, fun b hb hn => by rw [heap_grow_old w' os (Nat.lt_of_lt_of_le hb h.size)]; exact h.kept b hb hn, by rw [size_grow]; have := h.size; omega, h.os, h.tape, h.output, h.aext⟩
def leI (x y : Int) : Bool := decide (x ≤ y)
def sortI (xs : List Int) : List Int := xs.mergeSort fun x y => decide (x ≤ y)
theorem sortI_len (xs : List Int) : (sortI xs).length = xs.length := List.length_mergeSort ..
theorem encs_ints (xs : List Int) : encs xs = xs.map (Value.int .i64) := by
  induction xs with
  | nil => rfl
  | cons x r ih => rw [encs_cons, ih]; rfl
theorem sort_ints {lo : Nat} {f : FuncId} {fn : Func} {c : Code} {v : Value} {xs : List Int} {Kk : Value → AHeap → Prop} (hf : P.funcs[f]? = some fn) (hb : fn.body = some c) (hn : (fn.name == "runtime.NumGoroutine") = false)
    (hc : ∀ (blk off cap : Nat) (zs : List Int) (w : World), Holds (Value.int .i64) w blk off zs.toArray → blk < w.heap.size → zs.length < 4611686018427387904 →
      Calls P f #[.slice (some ⟨blk, off, none⟩) zs.length cap] w fun e w' => e = .returned (.tuple #[]) ∧ ∃ n os, w' = Sort.grow (putRow (Value.int .i64) (Sort.ahead w n) blk off (zs.mergeSort fun x y => decide (x ≤ y)).toArray) os)
    (h : FlH lo H v xs) (h0 : 0 < xs.length) (hs : xs.length < 4611686018427387904) (hk : ∀ H', FlH lo H' v (sortI xs) → H'.size = H.size → (∀ id, idOf v ≠ some id → H'.get id = H.get id) → Kk (.tuple #[]) H') : callA P f #[v] H Kk := by
  obtain ⟨hbig, hlen, ⟨rfl, h1⟩ | ⟨id, cap, cs, rfl, hlo, hid, hg, hfit, htk, hone, hcap, hun⟩⟩ := h
  · omega
  have hsl := sortI_len xs
  have hsz : Enc.sz Int = 1 := rfl
  rw [hsz, Nat.mul_one] at hfit htk hlen
  rw [encs_ints] at htk hlen
  have hsl2 : ((sortI xs).map (Value.int .i64)).length = xs.length := by rw [List.length_map, hsl]
  have hget : ∀ j, j < xs.length → cs.getD j undef = .int .i64 (xs.getD j 0) := fun j hj => by
    have : cs.getD j undef = (cs.take xs.length).getD j undef := by
      simp only [List.getD_eq_getElem?_getD]; rw [List.getElem?_take_of_lt hj]
    rw [this, htk]
    simp [List.getD_eq_getElem?_getD, hj]
  refine ⟨.tuple #[], H.set id (.rw 1 (splice cs 0 ((sortI xs).map (Value.int .i64)))), ⟨AExt.set H id _ (by rw [AHeap.hot, hg]; trivial), fun m w args' hr hfree hv => ?_⟩, hk _ ?_ (size_set _ _ _) fun id' hne => get_set_ne _ _ _ _ fun e => hne (by rw [e]; rfl)⟩
  · obtain ⟨hva, hvr⟩ := hv
    have hv0 := hvr 0 (by simp)
    obtain ⟨v', rfl⟩ : ∃ v', args' = #[v'] := by
      match args', hva with
      | ⟨[x]⟩, _ => exact ⟨x, rfl⟩
    have hv0 : VRel m (.slice (some ⟨id, 0, none⟩) xs.length cap) v' := by simpa using hv0
    cases hv0 with
    | sl hm hle hck hp =>
      rename_i cc l a
      rcases hp with ⟨rfl, hfit2⟩ | h00
      rotate_left
      · omega
      obtain ⟨he, hcl, hcc, hfr⟩ := hr.rw id l 1 cs hm hg
      have hblk := hr.dom id l hm
      have hfits : xs.length ≤ l.lim := by omega
      have hH : Holds (Value.int .i64) w l.blk (l.at_ + 0) xs.toArray := by
        intro j hj
        have hj : j < xs.length := by simpa using hj
        obtain ⟨u, h2, h3⟩ := hcc j (by omega)
        rw [hget j hj] at h3
        cases h3
        rw [Nat.add_zero]
        refine ⟨?_, (hfr j (by omega)).2⟩
        rw [h2]
        simp [hj, List.getD_eq_getElem?_getD, getElem!_def]
      have hcf : (callFunc f #[.slice (some ⟨l.blk, l.at_ + 0, none⟩) xs.length cc]).run P w = .ok (.enter f #[.slice (some ⟨l.blk, l.at_ + 0, none⟩) xs.length cc]) w := by
        unfold callFunc
        simp only [Sem.run_bind, run_program, Result.andThen_ok, hf, hn, hb]
        rfl
      unfold Invokes
      rw [hcf]
      refine Calls.mono (hc l.blk (l.at_ + 0) cc xs w hH hblk hs) fun e w' hp => ?_
      obtain ⟨rfl, n, os, rfl⟩ := hp
      refine ⟨m, VRel.tuple rfl (fun i hi => by simp at hi), ?_⟩
      refine Step.more ?_ os
      have hss : (xs.mergeSort fun x y => decide (x ≤ y)).toArray.size = xs.toArray.size := by
        have := sortI_len xs; unfold sortI at this; simpa using this
      have hH2 := holds_putRow (Value.int .i64) (Sort.ahead w n) l.blk (l.at_ + 0) xs.toArray (xs.mergeSort fun x y => decide (x ≤ y)).toArray (holds_ahead _ w n _ _ _ hH) hss
      have hput : ∀ j, j < xs.length → (putRow (Value.int .i64) (Sort.ahead w n) l.blk (l.at_ + 0) (xs.mergeSort fun x y => decide (x ≤ y)).toArray).cell? ⟨l.blk, l.at_ + j, none⟩ = some (.int .i64 ((sortI xs).getD j 0)) := fun j hj => by
        have h2 := (hH2 j (by rw [hss]; simpa using hj)).1
        rw [Nat.add_zero] at h2
        rw [Nat.add_zero, h2]
        have : j < (sortI xs).length := by omega
        unfold sortI at this ⊢
        simp [List.getD_eq_getElem?_getD, getElem!_def]
        cases (xs.mergeSort fun x y => decide (x ≤ y))[j]? <;> rfl
      have hoth : ∀ (a : Addr), a.block ≠ l.blk ∨ a.off < l.at_ ∨ l.at_ + xs.length ≤ a.off → (putRow (Value.int .i64) (Sort.ahead w n) l.blk (l.at_ + 0) (xs.mergeSort fun x y => decide (x ≤ y)).toArray).cell? a = w.cell? a := fun a ha => by
        rw [cell?_putRow_other _ _ _ _ _ _ (by rw [Nat.add_zero]; have := hss; simp only [List.size_toArray] at this ⊢; rw [this]; exact ha), cell?_ahead]
      refine Step.write hr hm (by rw [AHeap.hot, hg]; trivial) _ (fun k hk => ?_) (by rw [size_putRow]; rfl) rfl rfl rfl (fun e cs' h => by cases h) (fun e cs' h => ?_) (fun es h => by cases h)
      · show (mapBlock (Sort.ahead w n) l.blk _).heap[k]? = w.heap[k]?
        simp only [mapBlock, Sort.ahead]
        rw [Array.getElem?_modify]
        rw [if_neg (Ne.symm hk)]
      · cases h
        refine ⟨he, by rw [splice_length]; exact hcl, fun j hj => ?_, fun j hj => ?_⟩
        · rw [splice_length] at hj
          have hsp := splice_getD ((sortI xs).map (Value.int .i64)) cs 0 j (by rw [hsl2]; omega)
          by_cases hj2 : j < xs.length
          · refine ⟨_, hput j hj2, ?_⟩
            have e2 : (splice cs 0 ((sortI xs).map (Value.int .i64))).getD j undef = .int .i64 ((sortI xs).getD j 0) := by
              have hjs : j < (sortI xs).length := by omega
              have h5 : ((splice cs 0 ((sortI xs).map (Value.int .i64))).take (0 + ((sortI xs).map (Value.int .i64)).length)) = cs.take 0 ++ (sortI xs).map (Value.int .i64) := splice_app _ _ _ (by rw [hsl2]; omega)
              rw [List.take_zero, List.nil_append, Nat.zero_add, hsl2] at h5
              have h6 : (splice cs 0 ((sortI xs).map (Value.int .i64))).getD j undef = ((splice cs 0 ((sortI xs).map (Value.int .i64))).take xs.length).getD j undef := by
                simp only [List.getD_eq_getElem?_getD]; rw [List.getElem?_take_of_lt hj2]
              rw [h6, h5]
              simp [List.getD_eq_getElem?_getD, hjs]
            rw [e2]
            exact .int _ _
          · obtain ⟨u, h2, h3⟩ := hcc j hj
            refine ⟨u, by rw [hoth _ (.inr (.inr (by simp; omega)))]; exact h2, ?_⟩
            have e2 : (splice cs 0 ((sortI xs).map (Value.int .i64))).getD j undef = cs.getD j undef := by
              rw [hsp]
              rw [if_neg (by rw [hsl2]; omega)]
            rw [e2]; exact h3
        · rw [frozen?_putRow, frozen?_ahead]
          refine ⟨?_, (hfr j hj).2⟩
          by_cases hj2 : j < xs.length
          · rw [hput j hj2]; rfl
          · rw [hoth _ (.inr (.inr (by simp; omega)))]; exact (hfr j hj).1
  · refine ⟨by rw [hsl]; exact hbig, by rw [encs_len, hsz], .inr ⟨id, cap, _, by rw [hsl], hlo, by rw [size_set]; exact hid, get_set_same _ _ _ hid, by rw [splice_length, hsl, hsz]; omega, ?_, splice_one _ _ _ hone (ints_one _), fun hu => by rw [splice_length, hsl]; exact hcap hu, hun⟩⟩
    have h5 := splice_app ((sortI xs).map (Value.int .i64)) cs 0 (by rw [hsl2]; omega)
    rw [List.take_zero, List.nil_append, Nat.zero_add, hsl2] at h5
    rw [hsl, hsz, Nat.mul_one, h5, encs_ints]
end Go.Ah

namespace Go.Ah.A
open Go Go.Ah Go.Proofs
attribute [go_sem] Try.underlying0 Try.underlying1 Try.underlying2 Try.underlying3 Try.underlying4 Try.underlying5 Try.underlying6 Try.underlying7 Try.underlying8 Try.underlying9 Try.underlying10 Try.underlying11 Try.underlying12 Try.underlying13 Try.underlying14 Try.underlying15 Try.underlying16 Try.underlying17 Try.underlying18 Try.underlying19 Try.underlying20 Try.underlying21 Try.underlying22 Try.underlying23 Try.underlying24 Try.underlying25 Try.underlying26 Try.underlying27 Try.underlying28 Try.underlying29 Try.underlying30 Try.underlying31 Try.underlying32 Try.underlying33 Try.underlying34 Try.underlying35 Try.underlying36 Try.underlying37 Try.underlying38 Try.underlying39 Try.underlying40 Try.underlying41 Try.underlying42 Try.underlying43 Try.underlying44 Try.underlying45 Try.underlying46 Try.underlying47 Try.underlying48 Try.underlying49 Try.underlying50 Try.underlying51 Try.underlying52 Try.underlying53 Try.underlying54 Try.underlying55 Try.underlying56 Try.underlying57 Try.underlying58 Try.underlying59 Try.underlying60 Try.underlying61 Try.underlying62 Try.underlying63 Try.underlying64 Try.underlying65 Try.underlying66 Try.underlying67 Try.underlying68 Try.underlying69 Try.underlying70 Try.underlying71 Try.underlying72 Try.underlying73 Try.underlying74 Try.underlying75 Try.underlying76 Try.underlying77 Try.underlying78 Try.underlying79 Try.underlying80 Try.underlying81 Try.underlying82 Try.underlying83 Try.underlying84 Try.underlying85 Try.underlying86 Try.underlying87 Try.underlying88 Try.underlying89 Try.underlying90 Try.underlying91 Try.underlying92 Try.underlying93 Try.underlying94 Try.underlying95 Try.underlying96 Try.underlying97 Try.underlying98 Try.underlying99 Try.underlying100 Try.underlying101 Try.underlying102 Try.underlying103 Try.underlying104 Try.underlying105 Try.underlying106 Try.underlying107 Try.underlying108 Try.underlying109 Try.underlying110 Try.underlying111 Try.underlying112
@[go_sem] theorem tv1 : tVar Try.prog 1 = some (1, false) := by kernel_rfl
@[go_sem] theorem ts1 : tSz Try.prog 1 = some 1 := by kernel_rfl
@[go_sem] theorem tv2 : tVar Try.prog 2 = some (1, false) := by kernel_rfl
@[go_sem] theorem ts2 : tSz Try.prog 2 = some 1 := by kernel_rfl
@[go_sem] theorem tz2 : tZero Try.prog 2 = some (.int .i64 0) := by kernel_rfl
@[go_sem] theorem tv3 : tVar Try.prog 3 = some (1, false) := by kernel_rfl
@[go_sem] theorem ts3 : tSz Try.prog 3 = some 1 := by kernel_rfl
@[go_sem] theorem tz3 : tZero Try.prog 3 = some (.int .i64 0) := by kernel_rfl
@[go_sem] theorem tv4 : tVar Try.prog 4 = some (1, false) := by kernel_rfl
@[go_sem] theorem ts4 : tSz Try.prog 4 = some 1 := by kernel_rfl
@[go_sem] theorem tz4 : tZero Try.prog 4 = some (.bool false) := by kernel_rfl
@[go_sem] theorem tv5 : tVar Try.prog 5 = some (1, false) := by kernel_rfl
@[go_sem] theorem ts5 : tSz Try.prog 5 = some 1 := by kernel_rfl
@[go_sem] theorem tz5 : tZero Try.prog 5 = some (.int .u8 0) := by kernel_rfl
@[go_sem] theorem tv6 : tVar Try.prog 6 = some (1, false) := by kernel_rfl
@[go_sem] theorem ts6 : tSz Try.prog 6 = some 1 := by kernel_rfl
@[go_sem] theorem tz6 : tZero Try.prog 6 = some (.int .u8 0) := by kernel_rfl
@[go_sem] theorem tv7 : tVar Try.prog 7 = some (4, true) := by kernel_rfl
@[go_sem] theorem ts7 : tSz Try.prog 7 = some 4 := by kernel_rfl
@[go_sem] theorem tz7 : tZero Try.prog 7 = some (.agg #[(.int .i64 0), (.int .i64 0), (.bool false), (.int .u8 0)]) := by kernel_rfl
@[go_sem] theorem tp7 : tPlaces Try.prog 7 = some [(0, 1), (1, 1), (2, 1), (3, 1)] := by kernel_rfl
@[go_sem] theorem tf7f0 : tField Try.prog 7 0 = some (0, 1, false) := by kernel_rfl
@[go_sem] theorem tf7f1 : tField Try.prog 7 1 = some (1, 1, false) := by kernel_rfl
@[go_sem] theorem tf7f2 : tField Try.prog 7 2 = some (2, 1, false) := by kernel_rfl
@[go_sem] theorem tf7f3 : tField Try.prog 7 3 = some (3, 1, false) := by kernel_rfl
@[go_sem] theorem tv8 : tVar Try.prog 8 = some (4, true) := by kernel_rfl
@[go_sem] theorem ts8 : tSz Try.prog 8 = some 4 := by kernel_rfl
@[go_sem] theorem tz8 : tZero Try.prog 8 = some (.agg #[(.int .i64 0), (.int .i64 0), (.bool false), (.int .u8 0)]) := by kernel_rfl
@[go_sem] theorem tp8 : tPlaces Try.prog 8 = some [(0, 1), (1, 1), (2, 1), (3, 1)] := by kernel_rfl
@[go_sem] theorem tf8f0 : tField Try.prog 8 0 = some (0, 1, false) := by kernel_rfl
@[go_sem] theorem tf8f1 : tField Try.prog 8 1 = some (1, 1, false) := by kernel_rfl
@[go_sem] theorem tf8f2 : tField Try.prog 8 2 = some (2, 1, false) := by kernel_rfl
@[go_sem] theorem tf8f3 : tField Try.prog 8 3 = some (3, 1, false) := by kernel_rfl
@[go_sem] theorem tv9 : tVar Try.prog 9 = some (1, false) := by kernel_rfl
@[go_sem] theorem ts9 : tSz Try.prog 9 = some 1 := by kernel_rfl
@[go_sem] theorem tz9 : tZero Try.prog 9 = some (.string ⟨#[]⟩) := by kernel_rfl
@[go_sem] theorem tv10 : tVar Try.prog 10 = some (1, false) := by kernel_rfl
@[go_sem] theorem ts10 : tSz Try.prog 10 = some 1 := by kernel_rfl
@[go_sem] theorem tz10 : tZero Try.prog 10 = some (.string ⟨#[]⟩) := by kernel_rfl
@[go_sem] theorem tv11 : tVar Try.prog 11 = some (1, false) := by kernel_rfl
@[go_sem] theorem ts11 : tSz Try.prog 11 = some 1 := by kernel_rfl
@[go_sem] theorem tz11 : tZero Try.prog 11 = some (.string ⟨#[]⟩) := by kernel_rfl
@[go_sem] theorem tv12 : tVar Try.prog 12 = some (1, false) := by kernel_rfl
@[go_sem] theorem ts12 : tSz Try.prog 12 = some 1 := by kernel_rfl
@[go_sem] theorem tz12 : tZero Try.prog 12 = some (.int .u64 0) := by kernel_rfl
@[go_sem] theorem tv13 : tVar Try.prog 13 = some (2, true) := by kernel_rfl
@[go_sem] theorem ts13 : tSz Try.prog 13 = some 2 := by kernel_rfl
@[go_sem] theorem tz13 : tZero Try.prog 13 = some (.agg #[(.string ⟨#[]⟩), (.int .u64 0)]) := by kernel_rfl
@[go_sem] theorem tp13 : tPlaces Try.prog 13 = some [(0, 1), (1, 1)] := by kernel_rfl
@[go_sem] theorem tf13f0 : tField Try.prog 13 0 = some (0, 1, false) := by kernel_rfl
@[go_sem] theorem tf13f1 : tField Try.prog 13 1 = some (1, 1, false) := by kernel_rfl
@[go_sem] theorem tv14 : tVar Try.prog 14 = some (2, true) := by kernel_rfl
@[go_sem] theorem ts14 : tSz Try.prog 14 = some 2 := by kernel_rfl
@[go_sem] theorem tz14 : tZero Try.prog 14 = some (.agg #[(.string ⟨#[]⟩), (.int .u64 0)]) := by kernel_rfl
@[go_sem] theorem tp14 : tPlaces Try.prog 14 = some [(0, 1), (1, 1)] := by kernel_rfl
@[go_sem] theorem tf14f0 : tField Try.prog 14 0 = some (0, 1, false) := by kernel_rfl
@[go_sem] theorem tf14f1 : tField Try.prog 14 1 = some (1, 1, false) := by kernel_rfl
@[go_sem] theorem tv15 : tVar Try.prog 15 = some (1, false) := by kernel_rfl
@[go_sem] theorem ts15 : tSz Try.prog 15 = some 1 := by kernel_rfl
@[go_sem] theorem tz15 : tZero Try.prog 15 = some (.pointer none) := by kernel_rfl
@[go_sem] theorem tv16 : tVar Try.prog 16 = some (1, false) := by kernel_rfl
@[go_sem] theorem ts16 : tSz Try.prog 16 = some 1 := by kernel_rfl
@[go_sem] theorem tz16 : tZero Try.prog 16 = some (.pointer none) := by kernel_rfl
@[go_sem] theorem tv17 : tVar Try.prog 17 = some (1, false) := by kernel_rfl
@[go_sem] theorem ts17 : tSz Try.prog 17 = some 1 := by kernel_rfl
@[go_sem] theorem tz17 : tZero Try.prog 17 = some (.pointer none) := by kernel_rfl
@[go_sem] theorem tv18 : tVar Try.prog 18 = some (1, true) := by kernel_rfl
@[go_sem] theorem ts18 : tSz Try.prog 18 = some 1 := by kernel_rfl
@[go_sem] theorem tz18 : tZero Try.prog 18 = some (.agg #[(.pointer none)]) := by kernel_rfl
@[go_sem] theorem tp18 : tPlaces Try.prog 18 = some [(0, 1)] := by kernel_rfl
@[go_sem] theorem tf18f0 : tField Try.prog 18 0 = some (0, 1, false) := by kernel_rfl
@[go_sem] theorem tv19 : tVar Try.prog 19 = some (1, true) := by kernel_rfl
@[go_sem] theorem ts19 : tSz Try.prog 19 = some 1 := by kernel_rfl
@[go_sem] theorem tz19 : tZero Try.prog 19 = some (.agg #[(.pointer none)]) := by kernel_rfl
@[go_sem] theorem tp19 : tPlaces Try.prog 19 = some [(0, 1)] := by kernel_rfl
@[go_sem] theorem tf19f0 : tField Try.prog 19 0 = some (0, 1, false) := by kernel_rfl
@[go_sem] theorem tv20 : tVar Try.prog 20 = some (1, false) := by kernel_rfl
@[go_sem] theorem ts20 : tSz Try.prog 20 = some 1 := by kernel_rfl
@[go_sem] theorem tv21 : tVar Try.prog 21 = some (1, false) := by kernel_rfl
@[go_sem] theorem ts21 : tSz Try.prog 21 = some 1 := by kernel_rfl
@[go_sem] theorem tz21 : tZero Try.prog 21 = some (.int .i32 0) := by kernel_rfl
@[go_sem] theorem tv22 : tVar Try.prog 22 = some (1, false) := by kernel_rfl
@[go_sem] theorem ts22 : tSz Try.prog 22 = some 1 := by kernel_rfl
@[go_sem] theorem tz22 : tZero Try.prog 22 = some (.slice none 0 0) := by kernel_rfl
@[go_sem] theorem el22 : elemSz Try.prog 22 = some 3 := by kernel_rfl
@[go_sem] theorem te22 : tElem Try.prog 22 = some (3, 24, some (.agg #[(.int .i64 0), (.int .i64 0), (.int .i64 0)])) := by kernel_rfl
@[go_sem] theorem ta22 : tApp Try.prog 22 = some (3, 24) := by kernel_rfl
@[go_sem] theorem tv23 : tVar Try.prog 23 = some (1, false) := by kernel_rfl
@[go_sem] theorem ts23 : tSz Try.prog 23 = some 1 := by kernel_rfl
@[go_sem] theorem tv25 : tVar Try.prog 25 = some (1, false) := by kernel_rfl
@[go_sem] theorem ts25 : tSz Try.prog 25 = some 1 := by kernel_rfl
@[go_sem] theorem tv26 : tVar Try.prog 26 = some (1, false) := by kernel_rfl
@[go_sem] theorem ts26 : tSz Try.prog 26 = some 1 := by kernel_rfl
@[go_sem] theorem tz26 : tZero Try.prog 26 = some (.slice none 0 0) := by kernel_rfl
@[go_sem] theorem el26 : elemSz Try.prog 26 = some 3 := by kernel_rfl
@[go_sem] theorem te26 : tElem Try.prog 26 = some (3, 24, some (.agg #[(.int .i64 0), (.int .i64 0), (.int .i64 0)])) := by kernel_rfl
@[go_sem] theorem ta26 : tApp Try.prog 26 = some (3, 24) := by kernel_rfl
@[go_sem] theorem tv27 : tVar Try.prog 27 = some (1, false) := by kernel_rfl
@[go_sem] theorem ts27 : tSz Try.prog 27 = some 1 := by kernel_rfl
@[go_sem] theorem tv28 : tVar Try.prog 28 = some (1, false) := by kernel_rfl
@[go_sem] theorem ts28 : tSz Try.prog 28 = some 1 := by kernel_rfl
@[go_sem] theorem tv29 : tVar Try.prog 29 = some (1, false) := by kernel_rfl
@[go_sem] theorem ts29 : tSz Try.prog 29 = some 1 := by kernel_rfl
@[go_sem] theorem tv30 : tVar Try.prog 30 = some (1, false) := by kernel_rfl
@[go_sem] theorem ts30 : tSz Try.prog 30 = some 1 := by kernel_rfl
@[go_sem] theorem tz30 : tZero Try.prog 30 = some (.slice none 0 0) := by kernel_rfl
@[go_sem] theorem el30 : elemSz Try.prog 30 = some 1 := by kernel_rfl
@[go_sem] theorem te30 : tElem Try.prog 30 = some (1, 1, some (.int .u8 0)) := by kernel_rfl
@[go_sem] theorem ta30 : tApp Try.prog 30 = some (1, 1) := by kernel_rfl
@[go_sem] theorem tv31 : tVar Try.prog 31 = some (1, false) := by kernel_rfl
@[go_sem] theorem ts31 : tSz Try.prog 31 = some 1 := by kernel_rfl
@[go_sem] theorem tv32 : tVar Try.prog 32 = some (1, false) := by kernel_rfl
@[go_sem] theorem ts32 : tSz Try.prog 32 = some 1 := by kernel_rfl
@[go_sem] theorem tv33 : tVar Try.prog 33 = some (3, true) := by kernel_rfl
@[go_sem] theorem ts33 : tSz Try.prog 33 = some 3 := by kernel_rfl
@[go_sem] theorem tz33 : tZero Try.prog 33 = some (.agg #[(.int .i64 0), (.int .i64 0), (.int .i64 0)]) := by kernel_rfl
@[go_sem] theorem tp33 : tPlaces Try.prog 33 = some [(0, 1), (1, 1), (2, 1)] := by kernel_rfl
@[go_sem] theorem tf33f0 : tField Try.prog 33 0 = some (0, 1, false) := by kernel_rfl
@[go_sem] theorem tf33f1 : tField Try.prog 33 1 = some (1, 1, false) := by kernel_rfl
@[go_sem] theorem tf33f2 : tField Try.prog 33 2 = some (2, 1, false) := by kernel_rfl
@[go_sem] theorem tv34 : tVar Try.prog 34 = some (3, true) := by kernel_rfl
@[go_sem] theorem ts34 : tSz Try.prog 34 = some 3 := by kernel_rfl
@[go_sem] theorem tz34 : tZero Try.prog 34 = some (.agg #[(.int .i64 0), (.int .i64 0), (.int .i64 0)]) := by kernel_rfl
@[go_sem] theorem tp34 : tPlaces Try.prog 34 = some [(0, 1), (1, 1), (2, 1)] := by kernel_rfl
@[go_sem] theorem tf34f0 : tField Try.prog 34 0 = some (0, 1, false) := by kernel_rfl
@[go_sem] theorem tf34f1 : tField Try.prog 34 1 = some (1, 1, false) := by kernel_rfl
@[go_sem] theorem tf34f2 : tField Try.prog 34 2 = some (2, 1, false) := by kernel_rfl
@[go_sem] theorem tv35 : tVar Try.prog 35 = some (1, false) := by kernel_rfl
@[go_sem] theorem ts35 : tSz Try.prog 35 = some 1 := by kernel_rfl
@[go_sem] theorem tv36 : tVar Try.prog 36 = some (1, false) := by kernel_rfl
@[go_sem] theorem ts36 : tSz Try.prog 36 = some 1 := by kernel_rfl
@[go_sem] theorem tz36 : tZero Try.prog 36 = some (.slice none 0 0) := by kernel_rfl
@[go_sem] theorem el36 : elemSz Try.prog 36 = some 1 := by kernel_rfl
@[go_sem] theorem te36 : tElem Try.prog 36 = some (1, 24, some (.slice none 0 0)) := by kernel_rfl
@[go_sem] theorem ta36 : tApp Try.prog 36 = some (1, 24) := by kernel_rfl
@[go_sem] theorem tv38 : tVar Try.prog 38 = some (1, false) := by kernel_rfl
@[go_sem] theorem ts38 : tSz Try.prog 38 = some 1 := by kernel_rfl
@[go_sem] theorem tv39 : tVar Try.prog 39 = some (1, false) := by kernel_rfl
@[go_sem] theorem ts39 : tSz Try.prog 39 = some 1 := by kernel_rfl
@[go_sem] theorem tv40 : tVar Try.prog 40 = some (1, false) := by kernel_rfl
@[go_sem] theorem ts40 : tSz Try.prog 40 = some 1 := by kernel_rfl
@[go_sem] theorem tz40 : tZero Try.prog 40 = some (.slice none 0 0) := by kernel_rfl
@[go_sem] theorem el40 : elemSz Try.prog 40 = some 1 := by kernel_rfl
@[go_sem] theorem te40 : tElem Try.prog 40 = some (1, 8, some (.int .i64 0)) := by kernel_rfl
@[go_sem] theorem ta40 : tApp Try.prog 40 = some (1, 8) := by kernel_rfl
@[go_sem] theorem tv42 : tVar Try.prog 42 = some (1, false) := by kernel_rfl
@[go_sem] theorem ts42 : tSz Try.prog 42 = some 1 := by kernel_rfl
@[go_sem] theorem tv44 : tVar Try.prog 44 = some (1, false) := by kernel_rfl
@[go_sem] theorem ts44 : tSz Try.prog 44 = some 1 := by kernel_rfl
@[go_sem] theorem tv45 : tVar Try.prog 45 = some (1, false) := by kernel_rfl
@[go_sem] theorem ts45 : tSz Try.prog 45 = some 1 := by kernel_rfl
@[go_sem] theorem tv46 : tVar Try.prog 46 = some (1, false) := by kernel_rfl
@[go_sem] theorem ts46 : tSz Try.prog 46 = some 1 := by kernel_rfl
@[go_sem] theorem tv47 : tVar Try.prog 47 = some (1, false) := by kernel_rfl
@[go_sem] theorem ts47 : tSz Try.prog 47 = some 1 := by kernel_rfl
@[go_sem] theorem tv49 : tVar Try.prog 49 = some (1, false) := by kernel_rfl
@[go_sem] theorem ts49 : tSz Try.prog 49 = some 1 := by kernel_rfl
@[go_sem] theorem tv50 : tVar Try.prog 50 = some (1, false) := by kernel_rfl
@[go_sem] theorem ts50 : tSz Try.prog 50 = some 1 := by kernel_rfl
@[go_sem] theorem tv51 : tVar Try.prog 51 = some (3, true) := by kernel_rfl
@[go_sem] theorem ts51 : tSz Try.prog 51 = some 3 := by kernel_rfl
@[go_sem] theorem tz51 : tZero Try.prog 51 = some (.agg #[(.int .i64 0), (.int .i64 0), (.int .i64 0)]) := by kernel_rfl
@[go_sem] theorem tp51 : tPlaces Try.prog 51 = some [(0, 1), (1, 1), (2, 1)] := by kernel_rfl
@[go_sem] theorem tf51f0 : tField Try.prog 51 0 = some (0, 1, false) := by kernel_rfl
@[go_sem] theorem tf51f1 : tField Try.prog 51 1 = some (1, 1, false) := by kernel_rfl
@[go_sem] theorem tf51f2 : tField Try.prog 51 2 = some (2, 1, false) := by kernel_rfl
@[go_sem] theorem tv52 : tVar Try.prog 52 = some (1, false) := by kernel_rfl
@[go_sem] theorem ts52 : tSz Try.prog 52 = some 1 := by kernel_rfl
@[go_sem] theorem tv53 : tVar Try.prog 53 = some (1, false) := by kernel_rfl
@[go_sem] theorem ts53 : tSz Try.prog 53 = some 1 := by kernel_rfl
@[go_sem] theorem tv54 : tVar Try.prog 54 = some (1, false) := by kernel_rfl
@[go_sem] theorem ts54 : tSz Try.prog 54 = some 1 := by kernel_rfl
@[go_sem] theorem tv55 : tVar Try.prog 55 = some (1, false) := by kernel_rfl
@[go_sem] theorem ts55 : tSz Try.prog 55 = some 1 := by kernel_rfl
@[go_sem] theorem tv56 : tVar Try.prog 56 = some (1, false) := by kernel_rfl
@[go_sem] theorem ts56 : tSz Try.prog 56 = some 1 := by kernel_rfl
@[go_sem] theorem tv57 : tVar Try.prog 57 = some (1, false) := by kernel_rfl
@[go_sem] theorem ts57 : tSz Try.prog 57 = some 1 := by kernel_rfl
@[go_sem] theorem tv58 : tVar Try.prog 58 = some (1, false) := by kernel_rfl
@[go_sem] theorem ts58 : tSz Try.prog 58 = some 1 := by kernel_rfl
@[go_sem] theorem tz58 : tZero Try.prog 58 = some (.pointer none) := by kernel_rfl
@[go_sem] theorem tv59 : tVar Try.prog 59 = some (1, false) := by kernel_rfl
@[go_sem] theorem ts59 : tSz Try.prog 59 = some 1 := by kernel_rfl
@[go_sem] theorem tz59 : tZero Try.prog 59 = some (.int .u64 0) := by kernel_rfl
@[go_sem] theorem tv60 : tVar Try.prog 60 = some (3, true) := by kernel_rfl
@[go_sem] theorem ts60 : tSz Try.prog 60 = some 3 := by kernel_rfl
@[go_sem] theorem tz60 : tZero Try.prog 60 = some (.agg #[(.slice none 0 0), (.int .i64 0), (.int .u64 0)]) := by kernel_rfl
@[go_sem] theorem tp60 : tPlaces Try.prog 60 = some [(0, 1), (1, 1), (2, 1)] := by kernel_rfl
@[go_sem] theorem tf60f0 : tField Try.prog 60 0 = some (0, 1, false) := by kernel_rfl
@[go_sem] theorem tf60f1 : tField Try.prog 60 1 = some (1, 1, false) := by kernel_rfl
@[go_sem] theorem tf60f2 : tField Try.prog 60 2 = some (2, 1, false) := by kernel_rfl
@[go_sem] theorem tv61 : tVar Try.prog 61 = some (3, true) := by kernel_rfl
@[go_sem] theorem ts61 : tSz Try.prog 61 = some 3 := by kernel_rfl
@[go_sem] theorem tz61 : tZero Try.prog 61 = some (.agg #[(.slice none 0 0), (.int .i64 0), (.int .u64 0)]) := by kernel_rfl
@[go_sem] theorem tp61 : tPlaces Try.prog 61 = some [(0, 1), (1, 1), (2, 1)] := by kernel_rfl
@[go_sem] theorem tf61f0 : tField Try.prog 61 0 = some (0, 1, false) := by kernel_rfl
@[go_sem] theorem tf61f1 : tField Try.prog 61 1 = some (1, 1, false) := by kernel_rfl
@[go_sem] theorem tf61f2 : tField Try.prog 61 2 = some (2, 1, false) := by kernel_rfl
@[go_sem] theorem tv62 : tVar Try.prog 62 = some (1, false) := by kernel_rfl
@[go_sem] theorem ts62 : tSz Try.prog 62 = some 1 := by kernel_rfl
@[go_sem] theorem tv63 : tVar Try.prog 63 = some (1, false) := by kernel_rfl
@[go_sem] theorem ts63 : tSz Try.prog 63 = some 1 := by kernel_rfl
@[go_sem] theorem tv64 : tVar Try.prog 64 = some (1, false) := by kernel_rfl
@[go_sem] theorem ts64 : tSz Try.prog 64 = some 1 := by kernel_rfl
@[go_sem] theorem tv65 : tVar Try.prog 65 = some (1, false) := by kernel_rfl
@[go_sem] theorem ts65 : tSz Try.prog 65 = some 1 := by kernel_rfl
@[go_sem] theorem tv66 : tVar Try.prog 66 = some (1, false) := by kernel_rfl
@[go_sem] theorem ts66 : tSz Try.prog 66 = some 1 := by kernel_rfl
@[go_sem] theorem tv67 : tVar Try.prog 67 = some (1, false) := by kernel_rfl
@[go_sem] theorem ts67 : tSz Try.prog 67 = some 1 := by kernel_rfl
@[go_sem] theorem tv68 : tVar Try.prog 68 = some (1, false) := by kernel_rfl
@[go_sem] theorem ts68 : tSz Try.prog 68 = some 1 := by kernel_rfl
@[go_sem] theorem tv69 : tVar Try.prog 69 = some (1, false) := by kernel_rfl
@[go_sem] theorem ts69 : tSz Try.prog 69 = some 1 := by kernel_rfl
@[go_sem] theorem tv70 : tVar Try.prog 70 = some (1, false) := by kernel_rfl
@[go_sem] theorem ts70 : tSz Try.prog 70 = some 1 := by kernel_rfl
@[go_sem] theorem tv71 : tVar Try.prog 71 = some (1, false) := by kernel_rfl
@[go_sem] theorem ts71 : tSz Try.prog 71 = some 1 := by kernel_rfl
@[go_sem] theorem tz71 : tZero Try.prog 71 = some (.int .u64 0) := by kernel_rfl
@[go_sem] theorem tv72 : tVar Try.prog 72 = some (1, false) := by kernel_rfl
@[go_sem] theorem ts72 : tSz Try.prog 72 = some 1 := by kernel_rfl
@[go_sem] theorem tv73 : tVar Try.prog 73 = some (1, false) := by kernel_rfl
@[go_sem] theorem ts73 : tSz Try.prog 73 = some 1 := by kernel_rfl
@[go_sem] theorem tv74 : tVar Try.prog 74 = some (1, false) := by kernel_rfl
@[go_sem] theorem ts74 : tSz Try.prog 74 = some 1 := by kernel_rfl
@[go_sem] theorem tv75 : tVar Try.prog 75 = some (1, false) := by kernel_rfl
@[go_sem] theorem ts75 : tSz Try.prog 75 = some 1 := by kernel_rfl
@[go_sem] theorem tv76 : tVar Try.prog 76 = some (1, false) := by kernel_rfl
@[go_sem] theorem ts76 : tSz Try.prog 76 = some 1 := by kernel_rfl
@[go_sem] theorem tv77 : tVar Try.prog 77 = some (1, false) := by kernel_rfl
@[go_sem] theorem ts77 : tSz Try.prog 77 = some 1 := by kernel_rfl
@[go_sem] theorem tz77 : tZero Try.prog 77 = some (.int .i64 0) := by kernel_rfl
@[go_sem] theorem tv79 : tVar Try.prog 79 = some (1, false) := by kernel_rfl
@[go_sem] theorem ts79 : tSz Try.prog 79 = some 1 := by kernel_rfl
@[go_sem] theorem tv80 : tVar Try.prog 80 = some (1, false) := by kernel_rfl
@[go_sem] theorem ts80 : tSz Try.prog 80 = some 1 := by kernel_rfl
@[go_sem] theorem tv81 : tVar Try.prog 81 = some (1, false) := by kernel_rfl
@[go_sem] theorem ts81 : tSz Try.prog 81 = some 1 := by kernel_rfl
@[go_sem] theorem tv82 : tVar Try.prog 82 = some (1, false) := by kernel_rfl
@[go_sem] theorem ts82 : tSz Try.prog 82 = some 1 := by kernel_rfl
@[go_sem] theorem tv84 : tVar Try.prog 84 = some (1, false) := by kernel_rfl
@[go_sem] theorem ts84 : tSz Try.prog 84 = some 1 := by kernel_rfl
@[go_sem] theorem tv85 : tVar Try.prog 85 = some (1, false) := by kernel_rfl
@[go_sem] theorem ts85 : tSz Try.prog 85 = some 1 := by kernel_rfl
@[go_sem] theorem tv86 : tVar Try.prog 86 = some (1, false) := by kernel_rfl
@[go_sem] theorem ts86 : tSz Try.prog 86 = some 1 := by kernel_rfl
@[go_sem] theorem tz86 : tZero Try.prog 86 = some (.int .u32 0) := by kernel_rfl
@[go_sem] theorem tv87 : tVar Try.prog 87 = some (1, false) := by kernel_rfl
@[go_sem] theorem ts87 : tSz Try.prog 87 = some 1 := by kernel_rfl
@[go_sem] theorem tv88 : tVar Try.prog 88 = some (1, false) := by kernel_rfl
@[go_sem] theorem ts88 : tSz Try.prog 88 = some 1 := by kernel_rfl
@[go_sem] theorem tv89 : tVar Try.prog 89 = some (1, false) := by kernel_rfl
@[go_sem] theorem ts89 : tSz Try.prog 89 = some 1 := by kernel_rfl
@[go_sem] theorem tv90 : tVar Try.prog 90 = some (1, false) := by kernel_rfl
@[go_sem] theorem ts90 : tSz Try.prog 90 = some 1 := by kernel_rfl
@[go_sem] theorem tz90 : tZero Try.prog 90 = some (.int .u64 0) := by kernel_rfl
@[go_sem] theorem tv91 : tVar Try.prog 91 = some (1, false) := by kernel_rfl
@[go_sem] theorem ts91 : tSz Try.prog 91 = some 1 := by kernel_rfl
@[go_sem] theorem tv92 : tVar Try.prog 92 = some (1, false) := by kernel_rfl
@[go_sem] theorem ts92 : tSz Try.prog 92 = some 1 := by kernel_rfl
@[go_sem] theorem tv93 : tVar Try.prog 93 = some (1, false) := by kernel_rfl
@[go_sem] theorem ts93 : tSz Try.prog 93 = some 1 := by kernel_rfl
@[go_sem] theorem tv94 : tVar Try.prog 94 = some (1, false) := by kernel_rfl
@[go_sem] theorem ts94 : tSz Try.prog 94 = some 1 := by kernel_rfl
@[go_sem] theorem tz94 : tZero Try.prog 94 = some (.pointer none) := by kernel_rfl
@[go_sem] theorem tv95 : tVar Try.prog 95 = some (1, false) := by kernel_rfl
@[go_sem] theorem ts95 : tSz Try.prog 95 = some 1 := by kernel_rfl
@[go_sem] theorem tv96 : tVar Try.prog 96 = some (1, false) := by kernel_rfl
@[go_sem] theorem ts96 : tSz Try.prog 96 = some 1 := by kernel_rfl
@[go_sem] theorem tz96 : tZero Try.prog 96 = some (.pointer none) := by kernel_rfl
@[go_sem] theorem tv97 : tVar Try.prog 97 = some (1, false) := by kernel_rfl
@[go_sem] theorem ts97 : tSz Try.prog 97 = some 1 := by kernel_rfl
@[go_sem] theorem tv98 : tVar Try.prog 98 = some (1, false) := by kernel_rfl
@[go_sem] theorem ts98 : tSz Try.prog 98 = some 1 := by kernel_rfl
@[go_sem] theorem tv99 : tVar Try.prog 99 = some (4, true) := by kernel_rfl
@[go_sem] theorem ts99 : tSz Try.prog 99 = some 4 := by kernel_rfl
@[go_sem] theorem tz99 : tZero Try.prog 99 = some (.agg #[(.pointer none), (.pointer none), (.pointer none), (.string ⟨#[]⟩)]) := by kernel_rfl
@[go_sem] theorem tp99 : tPlaces Try.prog 99 = some [(0, 1), (1, 1), (2, 1), (3, 1)] := by kernel_rfl
@[go_sem] theorem tf99f0 : tField Try.prog 99 0 = some (0, 1, false) := by kernel_rfl
@[go_sem] theorem tf99f1 : tField Try.prog 99 1 = some (1, 1, false) := by kernel_rfl
@[go_sem] theorem tf99f2 : tField Try.prog 99 2 = some (2, 1, false) := by kernel_rfl
@[go_sem] theorem tf99f3 : tField Try.prog 99 3 = some (3, 1, false) := by kernel_rfl
@[go_sem] theorem tv100 : tVar Try.prog 100 = some (4, true) := by kernel_rfl
@[go_sem] theorem ts100 : tSz Try.prog 100 = some 4 := by kernel_rfl
@[go_sem] theorem tz100 : tZero Try.prog 100 = some (.agg #[(.pointer none), (.pointer none), (.pointer none), (.string ⟨#[]⟩)]) := by kernel_rfl
@[go_sem] theorem tp100 : tPlaces Try.prog 100 = some [(0, 1), (1, 1), (2, 1), (3, 1)] := by kernel_rfl
@[go_sem] theorem tf100f0 : tField Try.prog 100 0 = some (0, 1, false) := by kernel_rfl
@[go_sem] theorem tf100f1 : tField Try.prog 100 1 = some (1, 1, false) := by kernel_rfl
@[go_sem] theorem tf100f2 : tField Try.prog 100 2 = some (2, 1, false) := by kernel_rfl
@[go_sem] theorem tf100f3 : tField Try.prog 100 3 = some (3, 1, false) := by kernel_rfl
@[go_sem] theorem tv101 : tVar Try.prog 101 = some (0, true) := by kernel_rfl
@[go_sem] theorem ts101 : tSz Try.prog 101 = some 0 := by kernel_rfl
@[go_sem] theorem tz101 : tZero Try.prog 101 = some (.agg #[]) := by kernel_rfl
@[go_sem] theorem tv102 : tVar Try.prog 102 = some (0, true) := by kernel_rfl
@[go_sem] theorem ts102 : tSz Try.prog 102 = some 0 := by kernel_rfl
@[go_sem] theorem tz102 : tZero Try.prog 102 = some (.agg #[]) := by kernel_rfl
@[go_sem] theorem tp102 : tPlaces Try.prog 102 = some [(0, 0)] := by kernel_rfl
@[go_sem] theorem tf102f0 : tField Try.prog 102 0 = some (0, 0, true) := by kernel_rfl
@[go_sem] theorem tv103 : tVar Try.prog 103 = some (0, true) := by kernel_rfl
@[go_sem] theorem ts103 : tSz Try.prog 103 = some 0 := by kernel_rfl
@[go_sem] theorem tz103 : tZero Try.prog 103 = some (.agg #[]) := by kernel_rfl
@[go_sem] theorem tp103 : tPlaces Try.prog 103 = some [(0, 0)] := by kernel_rfl
@[go_sem] theorem tf103f0 : tField Try.prog 103 0 = some (0, 0, true) := by kernel_rfl
@[go_sem] theorem tv104 : tVar Try.prog 104 = some (1, false) := by kernel_rfl
@[go_sem] theorem ts104 : tSz Try.prog 104 = some 1 := by kernel_rfl
@[go_sem] theorem tz104 : tZero Try.prog 104 = some (.int .u8 0) := by kernel_rfl
@[go_sem] theorem tv105 : tVar Try.prog 105 = some (1, false) := by kernel_rfl
@[go_sem] theorem ts105 : tSz Try.prog 105 = some 1 := by kernel_rfl
@[go_sem] theorem tz105 : tZero Try.prog 105 = some (.int .u8 0) := by kernel_rfl
@[go_sem] theorem tv106 : tVar Try.prog 106 = some (1, false) := by kernel_rfl
@[go_sem] theorem ts106 : tSz Try.prog 106 = some 1 := by kernel_rfl
@[go_sem] theorem tv107 : tVar Try.prog 107 = some (1, false) := by kernel_rfl
@[go_sem] theorem ts107 : tSz Try.prog 107 = some 1 := by kernel_rfl
@[go_sem] theorem tz107 : tZero Try.prog 107 = some (.pointer none) := by kernel_rfl
@[go_sem] theorem tv108 : tVar Try.prog 108 = some (1, false) := by kernel_rfl
@[go_sem] theorem ts108 : tSz Try.prog 108 = some 1 := by kernel_rfl
@[go_sem] theorem tz108 : tZero Try.prog 108 = some (.int .i32 0) := by kernel_rfl
@[go_sem] theorem tv109 : tVar Try.prog 109 = some (1, false) := by kernel_rfl
@[go_sem] theorem ts109 : tSz Try.prog 109 = some 1 := by kernel_rfl
@[go_sem] theorem tz109 : tZero Try.prog 109 = some (.int .i32 0) := by kernel_rfl
@[go_sem] theorem tv110 : tVar Try.prog 110 = some (11, true) := by kernel_rfl
@[go_sem] theorem ts110 : tSz Try.prog 110 = some 11 := by kernel_rfl
@[go_sem] theorem tz110 : tZero Try.prog 110 = some (.agg #[(.int .u64 0), (.int .u64 0), (.int .u32 0), (.int .u8 0), (.int .u8 0), (.int .u8 0), (.int .u8 0), .nilFunc, (.pointer none), (.int .i32 0), (.int .i32 0)]) := by kernel_rfl
@[go_sem] theorem tp110 : tPlaces Try.prog 110 = some [(0, 1), (1, 1), (2, 1), (3, 1), (4, 1), (5, 1), (6, 1), (7, 1), (8, 1), (9, 1), (10, 1)] := by kernel_rfl
@[go_sem] theorem tf110f0 : tField Try.prog 110 0 = some (0, 1, false) := by kernel_rfl
@[go_sem] theorem tf110f1 : tField Try.prog 110 1 = some (1, 1, false) := by kernel_rfl
@[go_sem] theorem tf110f2 : tField Try.prog 110 2 = some (2, 1, false) := by kernel_rfl
@[go_sem] theorem tf110f3 : tField Try.prog 110 3 = some (3, 1, false) := by kernel_rfl
@[go_sem] theorem tf110f4 : tField Try.prog 110 4 = some (4, 1, false) := by kernel_rfl
@[go_sem] theorem tf110f5 : tField Try.prog 110 5 = some (5, 1, false) := by kernel_rfl
@[go_sem] theorem tf110f6 : tField Try.prog 110 6 = some (6, 1, false) := by kernel_rfl
@[go_sem] theorem tf110f7 : tField Try.prog 110 7 = some (7, 1, false) := by kernel_rfl
@[go_sem] theorem tf110f8 : tField Try.prog 110 8 = some (8, 1, false) := by kernel_rfl
@[go_sem] theorem tf110f9 : tField Try.prog 110 9 = some (9, 1, false) := by kernel_rfl
@[go_sem] theorem tf110f10 : tField Try.prog 110 10 = some (10, 1, false) := by kernel_rfl
@[go_sem] theorem tv111 : tVar Try.prog 111 = some (11, true) := by kernel_rfl
@[go_sem] theorem ts111 : tSz Try.prog 111 = some 11 := by kernel_rfl
@[go_sem] theorem tz111 : tZero Try.prog 111 = some (.agg #[(.int .u64 0), (.int .u64 0), (.int .u32 0), (.int .u8 0), (.int .u8 0), (.int .u8 0), (.int .u8 0), .nilFunc, (.pointer none), (.int .i32 0), (.int .i32 0)]) := by kernel_rfl
@[go_sem] theorem tp111 : tPlaces Try.prog 111 = some [(0, 1), (1, 1), (2, 1), (3, 1), (4, 1), (5, 1), (6, 1), (7, 1), (8, 1), (9, 1), (10, 1)] := by kernel_rfl
@[go_sem] theorem tf111f0 : tField Try.prog 111 0 = some (0, 1, false) := by kernel_rfl
@[go_sem] theorem tf111f1 : tField Try.prog 111 1 = some (1, 1, false) := by kernel_rfl
@[go_sem] theorem tf111f2 : tField Try.prog 111 2 = some (2, 1, false) := by kernel_rfl
@[go_sem] theorem tf111f3 : tField Try.prog 111 3 = some (3, 1, false) := by kernel_rfl
@[go_sem] theorem tf111f4 : tField Try.prog 111 4 = some (4, 1, false) := by kernel_rfl
@[go_sem] theorem tf111f5 : tField Try.prog 111 5 = some (5, 1, false) := by kernel_rfl
@[go_sem] theorem tf111f6 : tField Try.prog 111 6 = some (6, 1, false) := by kernel_rfl
@[go_sem] theorem tf111f7 : tField Try.prog 111 7 = some (7, 1, false) := by kernel_rfl
@[go_sem] theorem tf111f8 : tField Try.prog 111 8 = some (8, 1, false) := by kernel_rfl
@[go_sem] theorem tf111f9 : tField Try.prog 111 9 = some (9, 1, false) := by kernel_rfl
@[go_sem] theorem tf111f10 : tField Try.prog 111 10 = some (10, 1, false) := by kernel_rfl
theorem follows : Try.prog.follows .mixedOrders = true := by kernel_rfl
end Go.Ah.A

namespace Go.Ah.A
open Go Go.Ah Go.Proofs
set_option linter.unusedSimpArgs false
variable {H : AHeap} {Kk : Value → AHeap → Prop}
theorem within_c {n a b : Int} (hk : Kk (.bool (decide (a ≤ n) && decide (n ≤ b))) H) : callA Try.prog 36 #[.int .i64 n, .int .i64 a, .int .i64 b] H Kk := by
  refine call_go (fn := Try.f36) (rs := [.tmp 6]) [] (by kernel_rfl) rfl rfl follows (by kernel_rfl) ?_
  simp only [go_sem, seval]
  refine guard (fun h => ?_) (fun h => ?_) <;> simp only [go_sem, seval, h] <;> simpa only [h, Bool.true_and, Bool.false_and] using hk
theorem l1In_c {n a b : Int} (hk : Kk (.bool (decide (a ≤ n) && decide (n ≤ b))) H) : callA Try.prog 46 #[.int .i64 n, .int .i64 a, .int .i64 b] H Kk := by
  refine call_go (fn := Try.f46) (rs := [.tmp 6]) [] (by kernel_rfl) rfl rfl follows (by kernel_rfl) ?_
  simp only [go_sem, seval]
  refine guard (fun h => ?_) (fun h => ?_) <;> simp only [go_sem, seval, h] <;> simpa only [h, Bool.true_and, Bool.false_and] using hk
theorem l1Most_c {a b : Int} (hk : Kk (.int .i64 (max a b)) H) : callA Try.prog 55 #[.int .i64 a, .int .i64 b] H Kk := by
  refine call_go (fn := Try.f55) (rs := [.tmp 4]) [] (by kernel_rfl) rfl rfl follows (by kernel_rfl) ?_
  simp only [go_sem, seval]
  refine fork (fun h => ?_) (fun h => ?_) <;> simp only [go_sem, seval]
  · have : max a b = a := by simp at h; omega
    rw [this] at hk; exact hk
  · have : max a b = b := by simp at h; omega
    rw [this] at hk; exact hk
def goodS (s : T3) : Bool := decide (0 ≤ s.1) && (decide (s.1 ≤ s.2.1) && (decide (s.2.1 ≤ 240) && (decide (1 ≤ s.2.2) && decide (s.2.2 ≤ 9))))
def validS (xs : List T3) : Bool := xs.all goodS && decide (xs.length ≤ 20)
theorem badS_c {s : T3} (hk : ∀ H', AKeep H H' → Kk (.bool (!goodS s)) H') : callA Try.prog 35 #[.agg #[.int .i64 s.1, .int .i64 s.2.1, .int .i64 s.2.2]] H Kk := by
  refine call_go (fn := Try.f35) (rs := [.tmp 2]) [] (by kernel_rfl) rfl rfl follows (by kernel_rfl) ?_
  simp only [go_sem, seval, push_p, pushes_p, size_p, get_p, get_p0, set_p, set_p0]
  have fin : ∀ b : Bool, b = !goodS s → Kk (.bool b) (pushes H [.rw 3 [.int .i64 s.1, .int .i64 s.2.1, .int .i64 s.2.2]]) := fun b e => by rw [e]; exact hk _ keep_p
  by_cases h1 : s.1 < 0
  · have h1' : decide (s.1 < 0) = true := by simpa using h1
    simp only [go_sem, seval, push_p, pushes_p, size_p, get_p, get_p0, set_p, set_p0, h1']
    exact fin _ (by unfold goodS; rw [decide_eq_false (by omega : ¬ 0 ≤ s.1)]; rfl)
  have h1' : decide (s.1 < 0) = false := by simpa using h1
  by_cases h2 : s.2.1 < s.1
  · have h2' : decide (s.2.1 < s.1) = true := by simpa using h2
    simp only [go_sem, seval, push_p, pushes_p, size_p, get_p, get_p0, set_p, set_p0, h1', h2']
    exact fin _ (by unfold goodS; rw [decide_eq_false (by omega : ¬ s.1 ≤ s.2.1)]; simp)
  have h2' : decide (s.2.1 < s.1) = false := by simpa using h2
  by_cases h3 : 240 < s.2.1
  · have h3' : decide (240 < s.2.1) = true := by simpa using h3
    simp only [go_sem, seval, push_p, pushes_p, size_p, get_p, get_p0, set_p, set_p0, h1', h2', h3']
    exact fin _ (by unfold goodS; rw [decide_eq_false (by omega : ¬ s.2.1 ≤ 240)]; simp)
  have h3' : decide (240 < s.2.1) = false := by simpa using h3
  simp only [go_sem, seval, push_p, pushes_p, size_p, get_p, get_p0, set_p, set_p0, h1', h2', h3']
  refine within_c ?_
  simp only [go_sem, seval, push_p, pushes_p, size_p, get_p, get_p0, set_p, set_p0, h3']
  exact fin _ (by unfold goodS; rw [decide_eq_true (by omega : 0 ≤ s.1), decide_eq_true (by omega : s.1 ≤ s.2.1), decide_eq_true (by omega : s.2.1 ≤ 240)]; simp)
set_option maxRecDepth 8000 in
theorem indexBad_c {v : Value} {xs : List T3} (h : Fl H v xs) (hk : ∀ H', AKeep H H' → Kk (.int .i64 (idxF (fun s => !goodS s) xs 0)) H') : callA Try.prog 50 #[v, .func (.func 35) #[] #[]] H Kk := by
  have hb := h.lt
  refine call_go (fn := Try.f50) (rs := [.tmp 4]) [] (by kernel_rfl) rfl rfl follows (by kernel_rfl) ?_
  simp only [go_sem, seval, fl_len h]
  refine loopF [4, 5, 8, 9, 10, 11, 12, 13, 14, 15, 16, 17, 18] (by kernel_rfl) (I := fun nM σ G => ∃ i, nM = xs.length - i ∧ σ 8 = .int .i64 (i : Nat) ∧ AKeep H G ∧ idxF (fun s => !goodS s) xs 0 = idxF (fun s => !goodS s) (xs.drop i) i) _ ⟨0, rfl, ?s8, AKeep.refl _, rfl⟩ ?_

  case s8 => first | (simp only [go_sem, seval]; done) | (simp only [go_sem, seval]; rfl) | (simp only [go_sem, seval, *]; done) | (simp only [go_sem, seval]; simp; done)
  rintro _ σ1 _ ⟨i, rfl, s8, kG, hj⟩ hs R ih
  rename_i G
  simp only [go_sem, seval, s8, hs]
  refine fork (fun hlt => ?_) (fun hlt => ?_)
  · have hlt : i < xs.length := (dec_lt hlt).1 rfl
    rw [drop_getD _ _ Enc.d hlt, idxF] at hj
    simp only [go_sem, seval, hs, s8, fl_index (h.keep kG) sz_t3, fl_load (h.keep kG) sz_t3, hlt, enc_t3]
    refine badS_c fun G2 k2 => ?_
    simp only [go_sem, seval]
    by_cases hg : goodS (nth xs i Enc.d) = true
    · simp only [go_sem, seval, hg, s8, wrap_succ (Nat.lt_of_le_of_lt hlt hb)]
      rw [if_neg (by simp [hg])] at hj
      exact ih _ (by omega) _ _ ⟨i + 1, rfl, by simp only [go_sem, seval], kG.trans k2, hj⟩
    · have hg' : goodS (nth xs i Enc.d) = false := by simpa using hg
      simp only [go_sem, seval, hg']
      rw [if_pos (by simp [hg'])] at hj
      rw [hj] at hk
      exact hk _ (kG.trans k2)
  · have hlt : ¬ i < xs.length := by intro h; have := (dec_lt hlt).2 h; cases this
    simp only [go_sem, seval]
    rw [List.drop_eq_nil_of_le (by omega), idxF] at hj
    rw [hj] at hk
    exact hk _ kG
theorem containsBad_c {v : Value} {xs : List T3} (h : Fl H v xs) (hk : ∀ H', AKeep H H' → Kk (.bool (xs.any fun s => !goodS s)) H') : callA Try.prog 34 #[v, .func (.func 35) #[] #[]] H Kk := by
  refine call_go (fn := Try.f34) (rs := [.tmp 4]) [] (by kernel_rfl) rfl rfl follows (by kernel_rfl) ?_
  simp only [go_sem, seval]
  refine indexBad_c h fun G kG => ?_
  simp only [go_sem, seval]
  rw [idxF_any]
  exact hk _ kG
theorem any_not (xs : List T3) : xs.any (fun s => !goodS s) = !xs.all goodS := by
  induction xs with
  | nil => rfl
  | cons x r ih => rw [List.any_cons, List.all_cons, ih]; cases goodS x <;> rfl
theorem imValid_c {v : Value} {xs : List T3} (h : Fl H v xs) (hk : ∀ H', AKeep H H' → Kk (.bool (validS xs)) H') : callA Try.prog 14 #[v] H Kk := by
  refine call_go (fn := Try.f14) (rs := [.tmp 2]) [] (by kernel_rfl) rfl rfl follows (by kernel_rfl) ?_
  simp only [go_sem, seval]
  refine containsBad_c h fun G kG => ?_
  rw [any_not]
  unfold validS at hk
  cases ha : xs.all goodS with
  | true =>
    rw [ha] at hk
    simp only [go_sem, seval, fl_len h]
    have e : decide ((xs.length : Int) ≤ 20) = decide (xs.length ≤ 20) := by
      by_cases h2 : xs.length ≤ 20
      · rw [decide_eq_true h2, decide_eq_true (by omega)]
      · rw [decide_eq_false h2, decide_eq_false (by omega)]
    rw [e]
    simpa using hk _ kG
  | false =>
    rw [ha] at hk
    simp only [go_sem, seval]
    simpa using hk _ kG
set_option maxRecDepth 8000 in
theorem spGood_c {v : Value} {xs : List T3} (h : Fl H v xs) (hk : Kk (.bool (validS xs)) H) : callA Try.prog 23 #[v] H Kk := by
  have hb := h.lt
  refine call_go (fn := Try.f23) (rs := [.tmp 2]) [] (by kernel_rfl) rfl rfl follows (by kernel_rfl) ?_
  simp only [go_sem, seval]
  refine loopF [2, 3, 4, 5, 6, 7, 8, 9, 10, 11, 12, 13, 14, 15, 16, 17, 18, 19, 20, 21, 22, 23, 24, 25, 26, 27, 28, 29, 30, 31, 32, 33, 34, 35, 36, 37, 38, 39] (by kernel_rfl) (I := fun nM σ G => ∃ i, nM = xs.length - i ∧ σ 3 = .int .i64 (i : Nat) ∧ G = H ∧ xs.all goodS = (xs.drop i).all goodS) _ ⟨0, rfl, ?s3, rfl, rfl⟩ ?_

  case s3 => first | (simp only [go_sem, seval]; done) | (simp only [go_sem, seval]; rfl) | (simp only [go_sem, seval, *]; done) | (simp only [go_sem, seval]; simp; done)
  rintro _ σ1 _ ⟨i, rfl, s3, rfl, hj⟩ hs R ih
  simp only [go_sem, seval, s3, hs, fl_len h]
  refine fork (fun hlt => ?_) (fun hlt => ?_)
  · have hlt : i < xs.length := (dec_lt hlt).1 rfl
    have hpos : 0 < xs.length := by omega
    rw [drop_getD _ _ Enc.d hlt, List.all_cons] at hj
    obtain ⟨x, hx⟩ : ∃ x, nth xs i Enc.d = x := ⟨_, rfl⟩
    have l0 : ∀ {t : TypeId} {K : Value → Prop}, tVar Try.prog t = some (1, false) → aLoad Try.prog _ t (elemPtr v (i * 3)) K = K (.int .i64 x.1) := fun {t K} ht => by rw [fl_load0 h sz_t3 ht hlt, hx]; rfl
    have l1 : ∀ {t : TypeId} {K : Value → Prop}, tVar Try.prog t = some (1, false) → aLoad Try.prog _ t (elemPtr v (i * 3 + 1)) K = K (.int .i64 x.2.1) := fun {t K} ht => by rw [fl_loadf (j := 1) h sz_t3 ht hlt (by omega), hx]; rfl
    have l2 : ∀ {t : TypeId} {K : Value → Prop}, tVar Try.prog t = some (1, false) → aLoad Try.prog _ t (elemPtr v (i * 3 + 2)) K = K (.int .i64 x.2.2) := fun {t K} ht => by rw [fl_loadf (j := 2) h sz_t3 ht hlt (by omega), hx]; rfl
    have bad : goodS x = false → Kk (.bool false) _ := fun hg => by
      have : validS xs = false := by unfold validS; rw [hj, hx, hg]; rfl
      rw [this] at hk; exact hk
    simp only [go_sem, seval, hs, s3, fl_index h sz_t3, hlt, elem_field h hpos, l0, l1, l2]
    refine l1In_c ?_
    by_cases h1 : 0 ≤ x.1 ∧ x.1 ≤ 240
    rotate_left
    · have h1' : (decide (0 ≤ x.1) && decide (x.1 ≤ 240)) = false := by simpa using h1
      simp only [go_sem, seval, h1']
      exact bad (by unfold goodS; simp; omega)
    have h1' : (decide (0 ≤ x.1) && decide (x.1 ≤ 240)) = true := by simpa using h1
    simp only [go_sem, seval, hs, s3, h1', fl_index h sz_t3, hlt, elem_field h hpos, l0, l1, l2]
    refine l1In_c ?_
    by_cases h2 : x.1 ≤ x.2.1 ∧ x.2.1 ≤ 240
    rotate_left
    · have h2' : (decide (x.1 ≤ x.2.1) && decide (x.2.1 ≤ 240)) = false := by simpa using h2
      simp only [go_sem, seval, h2']
      exact bad (by unfold goodS; simp; omega)
    have h2' : (decide (x.1 ≤ x.2.1) && decide (x.2.1 ≤ 240)) = true := by simpa using h2
    simp only [go_sem, seval, hs, s3, h2', fl_index h sz_t3, hlt, elem_field h hpos, l0, l1, l2]
    refine l1In_c ?_
    by_cases h3 : 1 ≤ x.2.2 ∧ x.2.2 ≤ 9
    rotate_left
    · have h3' : (decide (1 ≤ x.2.2) && decide (x.2.2 ≤ 9)) = false := by simpa using h3
      simp only [go_sem, seval, h3']
      exact bad (by unfold goodS; simp; omega)
    have h3' : (decide (1 ≤ x.2.2) && decide (x.2.2 ≤ 9)) = true := by simpa using h3
    simp only [go_sem, seval, hs, s3, h3', wrap_succ (Nat.lt_of_le_of_lt hlt hb)]
    have hg : goodS x = true := by unfold goodS; simp; omega
    refine ih _ (by omega) _ _ ⟨i + 1, rfl, by simp only [go_sem, seval], rfl, ?_⟩
    rw [hj, hx, hg, Bool.true_and]
  · have hlt : ¬ i < xs.length := by intro h; have := (dec_lt hlt).2 h; cases this
    simp only [go_sem, seval, hs, fl_len h]
    rw [List.drop_eq_nil_of_le (by omega), List.all_nil] at hj
    have e : decide ((xs.length : Int) ≤ 20) = validS xs := by
      unfold validS; rw [hj, Bool.true_and]
      by_cases h2 : xs.length ≤ 20
      · rw [decide_eq_true h2, decide_eq_true (by omega)]
      · rw [decide_eq_false h2, decide_eq_false (by omega)]
    rw [e]; exact hk
end Go.Ah.A


namespace Go.Ah.A
open Go Go.Ah Go.Proofs
set_option linter.unusedSimpArgs false
variable {H : AHeap} {Kk : Value → AHeap → Prop}
def hours (xs : List T3) : List Int := xs.map fun s => s.2.1 - s.1
theorem hours_len (xs : List T3) : (hours xs).length = xs.length := by simp [hours]
theorem hours_succ (xs : List T3) (i : Nat) (h : i < xs.length) : hours (xs.take (i + 1)) = hours (xs.take i) ++ [(nth xs i Enc.d).2.1 - (nth xs i Enc.d).1] := by
  rw [tk_succ xs i Enc.d h]; simp [hours]
theorem good_bd {xs : List T3} (hg : xs.all goodS = true) {i : Nat} (h : i < xs.length) : 0 ≤ (nth xs i Enc.d).1 ∧ (nth xs i Enc.d).1 ≤ (nth xs i Enc.d).2.1 ∧ (nth xs i Enc.d).2.1 ≤ 240 := by
  have := List.all_eq_true.1 hg _ (nth_in (d := Enc.d) h)
  unfold goodS at this
  simp at this
  omega
set_option maxRecDepth 8000 in
theorem lengthsOf_c {v : Value} {xs : List T3} (h : Fl H v xs) (hg : xs.all goodS = true) (hl : xs.length ≤ 20) (hk : ∀ w H', AKeep H H' → FlH H.size H' w (hours xs) → Kk w H') : callA Try.prog 28 #[v] H Kk := by
  have hb := h.lt
  refine call_go (fn := Try.f28) (rs := [.tmp 2]) [] (by kernel_rfl) rfl rfl follows (by kernel_rfl) ?_
  simp only [go_sem, seval, fl_len h]
  refine loopF [3, 5, 9, 10, 11, 12, 13, 14, 15, 16, 17, 18, 19, 20, 21] (by kernel_rfl) (I := fun nM σ G => ∃ i sv, nM = xs.length - i ∧ σ 9 = .int .i64 (i : Nat) ∧ σ 3 = sv ∧ i ≤ xs.length ∧ AKeep H G ∧ FlH H.size G sv (hours (xs.take i))) _ ⟨0, .slice (some ⟨H.size, 0, none⟩) 0 0, rfl, ?s9, ?s3, by omega, AKeep.push _ _, FlH.lit rfl⟩ ?_

  case s9 => first | (simp only [go_sem, seval]; done) | (simp only [go_sem, seval]; rfl) | (simp only [go_sem, seval, *]; done) | (simp only [go_sem, seval]; simp; done)
  case s3 => first | (simp only [go_sem, seval]; done) | (simp only [go_sem, seval]; rfl) | (simp only [go_sem, seval, *]; done) | (simp only [go_sem, seval]; simp; done)
  rintro _ σ1 _ ⟨i, sv, rfl, s9, s3, hi, kG, aG⟩ hs R ih
  rename_i G
  simp only [go_sem, seval, s9, hs]
  refine fork (fun hlt => ?_) (fun hlt => ?_)
  · have hlt : i < xs.length := (dec_lt hlt).1 rfl
    have hbd := good_bd hg hlt
    have htl : (hours (xs.take i)).length = i := by rw [hours_len, List.length_take]; omega
    have hw : IntKind.i64.wrap ((nth xs i Enc.d).2.1 - (nth xs i Enc.d).1) = (nth xs i Enc.d).2.1 - (nth xs i Enc.d).1 := wrap_id (by omega) (by omega)
    simp only [go_sem, seval, get_set_same, get_set_ne, Nat.add_left_cancel_iff, hs, s9, fl_index (h.keep kG) sz_t3, fl_load (h.keep kG) sz_t3, hlt, enc_t3, push_set, s3, (At.new _).get, hw]
    refine fl_app (α := Int) (a := (nth xs i Enc.d).2.1 - (nth xs i Enc.d).1) ((aG.keep (AKeep.push _ _)).keep (AKeep.push _ _)) sz_int (by rw [size_push, size_push]; have := kG.size; omega) rfl (by rw [htl]; omega) (by rw [htl]; unfold big; omega) fun w G' a2 z2 f2 _ => ?_
    rw [size_push, size_push] at z2
    simp only [go_sem, seval, s9, wrap_succ (Nat.lt_of_le_of_lt hlt hb)]
    refine ih _ (by omega) _ _ ⟨i + 1, w, rfl, by simp only [go_sem, seval], by simp only [go_sem, seval], by omega, ⟨by have := kG.size; omega, fun id hid => ?_⟩, by rw [hours_succ xs i hlt]; exact a2⟩
    have := kG.size
    rw [f2 id (by rw [size_push, size_push]; omega) (fun e => by have := aG.above e; omega), get_push_lt _ _ _ (by rw [size_push]; omega), get_push_lt _ _ _ (by omega), kG.get id hid]
  · have hlt : ¬ i < xs.length := by intro h; have := (dec_lt hlt).2 h; cases this
    obtain rfl : i = xs.length := by omega
    simp only [go_sem, seval, s3]
    rw [List.take_of_length_le (Nat.le_refl _)] at aG
    exact hk _ _ kG aG
set_option maxRecDepth 8000 in
theorem hours_c {v : Value} {xs : List T3} (h : Fl H v xs) (hg : xs.all goodS = true) (hl : xs.length ≤ 20) (hk : ∀ w H', AKeep H H' → FlH H.size H' w (hours xs) → Kk w H') : callA Try.prog 25 #[v] H Kk := by
  have hb := h.lt
  refine call_go (fn := Try.f25) (rs := [.tmp 2]) [] (by kernel_rfl) rfl rfl follows (by kernel_rfl) ?_
  simp only [go_sem, seval]
  refine loopF [3, 4, 6, 7, 8, 9, 10, 11, 12, 13, 14, 15, 16, 17, 18, 19, 20, 21, 22, 23, 24, 25] (by kernel_rfl) (I := fun nM σ G => ∃ i sv, nM = xs.length - i ∧ σ 4 = .int .i64 (i : Nat) ∧ σ 3 = sv ∧ i ≤ xs.length ∧ AKeep H G ∧ FlH H.size G sv (hours (xs.take i))) _ ⟨0, .slice (some ⟨H.size, 0, none⟩) 0 0, rfl, ?s4, ?s3, by omega, AKeep.push _ _, FlH.lit rfl⟩ ?_

  case s4 => first | (simp only [go_sem, seval]; done) | (simp only [go_sem, seval]; rfl) | (simp only [go_sem, seval, *]; done) | (simp only [go_sem, seval]; simp; done)
  case s3 => first | (simp only [go_sem, seval]; done) | (simp only [go_sem, seval]; rfl) | (simp only [go_sem, seval, *]; done) | (simp only [go_sem, seval]; simp; done)
  rintro _ σ1 _ ⟨i, sv, rfl, s4, s3, hi, kG, aG⟩ hs R ih
  rename_i G
  simp only [go_sem, seval, s4, hs, fl_len h]
  refine fork (fun hlt => ?_) (fun hlt => ?_)
  · have hlt : i < xs.length := (dec_lt hlt).1 rfl
    have hpos : 0 < xs.length := by omega
    have hbd := good_bd hg hlt
    have htl : (hours (xs.take i)).length = i := by rw [hours_len, List.length_take]; omega
    have hw : IntKind.i64.wrap ((nth xs i Enc.d).2.1 - (nth xs i Enc.d).1) = (nth xs i Enc.d).2.1 - (nth xs i Enc.d).1 := wrap_id (by omega) (by omega)
    have g := h.keep kG
    have l0 : ∀ {t : TypeId} {K : Value → Prop}, tVar Try.prog t = some (1, false) → aLoad Try.prog G t (elemPtr v (i * 3)) K = K (.int .i64 (nth xs i Enc.d).1) := fun {t K} ht => by rw [fl_load0 g sz_t3 ht hlt]; rfl
    have l1 : ∀ {t : TypeId} {K : Value → Prop}, tVar Try.prog t = some (1, false) → aLoad Try.prog G t (elemPtr v (i * 3 + 1)) K = K (.int .i64 (nth xs i Enc.d).2.1) := fun {t K} ht => by rw [fl_loadf (j := 1) g sz_t3 ht hlt (by omega)]; rfl
    simp only [go_sem, seval, get_set_same, get_set_ne, Nat.add_left_cancel_iff, hs, s4, fl_index g sz_t3, hlt, elem_field g hpos, l0, l1, s3, hw]
    refine fl_app (α := Int) (a := (nth xs i Enc.d).2.1 - (nth xs i Enc.d).1) (aG.keep (AKeep.push _ _)) sz_int (by rw [size_push]; have := kG.size; omega) rfl (by rw [htl]; omega) (by rw [htl]; unfold big; omega) fun w G' a2 z2 f2 _ => ?_
    rw [size_push] at z2
    simp only [go_sem, seval, s4, wrap_succ (Nat.lt_of_le_of_lt hlt hb)]
    refine ⟨callCond_bar (by kernel_rfl), ?_⟩
    refine ih _ (by omega) _ _ ⟨i + 1, w, rfl, by simp only [go_sem, seval], by simp only [go_sem, seval], by omega, ⟨by have := kG.size; omega, fun id hid => ?_⟩, by rw [hours_succ xs i hlt]; exact a2⟩
    have := kG.size
    rw [f2 id (by rw [size_push]; omega) (fun e => by have := aG.above e; omega), get_push_lt _ _ _ (by omega), kG.get id hid]
  · have hlt : ¬ i < xs.length := by intro h; have := (dec_lt hlt).2 h; cases this
    obtain rfl : i = xs.length := by omega
    simp only [go_sem, seval, s3]
    rw [List.take_of_length_le (Nat.le_refl _)] at aG
    exact hk _ _ kG aG
theorem tmod_nat (a b : Nat) : ((a : Int)).tmod (b : Int) = ((a % b : Nat) : Int) := by rw [Int.tmod_eq_emod_of_nonneg (by omega)]; rfl
theorem tdiv_nat (a b : Nat) : ((a : Int)).tdiv (b : Int) = ((a / b : Nat) : Int) := by rw [Int.tdiv_eq_ediv_of_nonneg (by omega)]; rfl
theorem gcd_step (a b : Nat) : Nat.gcd b (a % b) = Nat.gcd a b := by rw [Nat.gcd_comm a b, Nat.gcd_rec b a, Nat.gcd_comm]
theorem wrap_nat {m : Nat} (h : m ≤ 1099511627776) : IntKind.i64.wrap (m : Int) = m := wrap_id (by omega) (by omega)
theorem gcd_pos {n d : Nat} (h : 0 < d) : 0 < Nat.gcd n d := Nat.gcd_pos_of_pos_right n h
set_option maxRecDepth 8000 in
theorem fraction_c {n d : Nat} (hd : 0 < d) (hn : n ≤ 1099511627776) (hd2 : d ≤ 1099511627776) (hk : Kk (.tuple #[.int .i64 ((n / Nat.gcd n d : Nat) : Int), .int .i64 ((d / Nat.gcd n d : Nat) : Int)]) H) : callA Try.prog 30 #[.int .i64 n, .int .i64 d] H Kk := by
  refine call_go (fn := Try.f30) (rs := [.tmp 4, .tmp 5]) [] (by kernel_rfl) rfl rfl follows (by kernel_rfl) ?_
  simp only [go_sem, seval]
  refine loopF [6, 7, 10, 11, 12, 13, 14, 15] (by kernel_rfl) (I := fun nM σ G => ∃ a b, nM = 2 * b ∧ σ 6 = .int .i64 (a : Nat) ∧ σ 7 = .int .i64 (b : Nat) ∧ G = H ∧ Nat.gcd a b = Nat.gcd n d) _ ⟨n, d, rfl, ?s6, ?s7, rfl, rfl⟩ ?_

  case s6 => first | (simp only [go_sem, seval]; done) | (simp only [go_sem, seval]; rfl) | (simp only [go_sem, seval, *]; done) | (simp only [go_sem, seval]; simp; done)
  case s7 => first | (simp only [go_sem, seval]; done) | (simp only [go_sem, seval]; rfl) | (simp only [go_sem, seval, *]; done) | (simp only [go_sem, seval]; simp; done)
  rintro _ σ1 _ ⟨a, b, rfl, s6, s7, rfl, hgc⟩ hs R ih
  simp only [go_sem, seval, s7, s6]
  refine fork (fun hlt => ?_) (fun hlt => ?_)
  · have hb : ¬ b = 0 := by simp at hlt; omega
    have hb' : ¬ (b : Int) = 0 := by omega
    simp only [go_sem, seval, s7, s6, hb', tmod_nat]
    exact ih _ (by have := Nat.mod_lt a (show b > 0 by omega); omega) _ _ ⟨b, a % b, rfl, by simp only [go_sem, seval], by simp only [go_sem, seval], rfl, by rw [gcd_step]; exact hgc⟩
  · have hb : b = 0 := by simp at hlt; omega
    subst hb
    rw [Nat.gcd_zero_right] at hgc
    subst hgc
    have hg := gcd_pos (n := n) hd
    have g1 : decide ((Nat.gcd n d : Int) < 0) = false := by simp
    have g2 : decide ((d : Int) < 0) = false := by simp
    have g3 : ¬ (Nat.gcd n d : Int) = 0 := by omega
    have w1 : IntKind.i64.wrap ((n / Nat.gcd n d : Nat) : Int) = ((n / Nat.gcd n d : Nat) : Int) := wrap_nat (Nat.le_trans (Nat.div_le_self _ _) hn)
    have w2 : IntKind.i64.wrap ((d / Nat.gcd n d : Nat) : Int) = ((d / Nat.gcd n d : Nat) : Int) := wrap_nat (Nat.le_trans (Nat.div_le_self _ _) hd2)
    simp only [go_sem, seval, hs, s6, g1, g2, g3, tdiv_nat, w1, w2]
    exact hk
set_option maxRecDepth 8000 in
theorem common_c {n d : Nat} (hn : n ≤ 1099511627776) (hd2 : d ≤ 1099511627776) (hk : Kk (.int .i64 (Nat.gcd n d : Nat)) H) : callA Try.prog 47 #[.int .i64 n, .int .i64 d] H Kk := by
  refine call_go (fn := Try.f47) (rs := [.tmp 4]) [] (by kernel_rfl) rfl rfl follows (by kernel_rfl) ?_
  have m1 : max (n : Int) (IntKind.i64.wrap (0 - (n : Int))) = n := by rw [wrap_id (by omega) (by omega)]; omega
  have m2 : max (d : Int) (IntKind.i64.wrap (0 - (d : Int))) = d := by rw [wrap_id (by omega) (by omega)]; omega
  simp only [go_sem, seval]
  refine l1Most_c ?_
  simp only [go_sem, seval, m1]
  refine l1Most_c ?_
  simp only [go_sem, seval, m2]
  refine loopF [0, 1, 5, 14, 15, 16, 17, 18, 19, 20] (by kernel_rfl) (I := fun nM σ G => ∃ a b, nM = 2 * b ∧ σ 0 = .int .i64 (a : Nat) ∧ σ 1 = .int .i64 (b : Nat) ∧ G = H ∧ Nat.gcd a b = Nat.gcd n d) _ ⟨n, d, rfl, ?s0, ?s1, rfl, rfl⟩ ?_

  case s0 => first | (simp only [go_sem, seval]; done) | (simp only [go_sem, seval]; rfl) | (simp only [go_sem, seval, *]; done) | (simp only [go_sem, seval]; simp; done)
  case s1 => first | (simp only [go_sem, seval]; done) | (simp only [go_sem, seval]; rfl) | (simp only [go_sem, seval, *]; done) | (simp only [go_sem, seval]; simp; done)
  rintro _ σ1 _ ⟨a, b, rfl, s0, s1, rfl, hgc⟩ hs R ih
  simp only [go_sem, seval, s0, s1]
  refine fork (fun hlt => ?_) (fun hlt => ?_)
  · have hb : ¬ b = 0 := by simp at hlt; omega
    have hb' : ¬ (b : Int) = 0 := by omega
    simp only [go_sem, seval, s0, s1, hb', tmod_nat]
    exact ih _ (by have := Nat.mod_lt a (show b > 0 by omega); omega) _ _ ⟨b, a % b, rfl, by simp only [go_sem, seval], by simp only [go_sem, seval], rfl, by rw [gcd_step]; exact hgc⟩
  · have hb : b = 0 := by simp at hlt; omega
    subst hb
    rw [Nat.gcd_zero_right] at hgc
    subst hgc
    simp only [go_sem, seval, s0]
    exact hk
set_option maxRecDepth 8000 in
theorem reduce_c {n d : Nat} (hd : 0 < d) (hn : n ≤ 1099511627776) (hd2 : d ≤ 1099511627776) (hk : Kk (.tuple #[.int .i64 ((n / Nat.gcd n d : Nat) : Int), .int .i64 ((d / Nat.gcd n d : Nat) : Int)]) H) : callA Try.prog 26 #[.int .i64 n, .int .i64 d] H Kk := by
  refine call_go (fn := Try.f26) (rs := [.tmp 4, .tmp 5]) [] (by kernel_rfl) rfl rfl follows (by kernel_rfl) ?_
  simp only [go_sem, seval]
  refine common_c hn hd2 ?_
  have hg := gcd_pos (n := n) hd
  have g3 : ¬ (Nat.gcd n d : Int) = 0 := by omega
  have w1 : IntKind.i64.wrap ((n / Nat.gcd n d : Nat) : Int) = ((n / Nat.gcd n d : Nat) : Int) := wrap_nat (Nat.le_trans (Nat.div_le_self _ _) hn)
  have w2 : IntKind.i64.wrap ((d / Nat.gcd n d : Nat) : Int) = ((d / Nat.gcd n d : Nat) : Int) := wrap_nat (Nat.le_trans (Nat.div_le_self _ _) hd2)
  simp only [go_sem, seval, g3, tdiv_nat, w1, w2]
  exact hk
end Go.Ah.A


namespace Go.Ah.A
open Go Go.Ah Go.Proofs
set_option linter.unusedSimpArgs false
variable {H : AHeap} {Kk : Value → AHeap → Prop}
theorem sorted_ins {ys : List Int} {x : Int} {k : Nat} (hs : ys.Pairwise (· ≤ ·)) (hk : k ≤ ys.length) (h1 : ∀ j, k ≤ j → j < ys.length → x < nth ys j 0) (h2 : k = 0 ∨ nth ys (k - 1) 0 ≤ x) : (ys.take k ++ [x] ++ ys.drop k).Pairwise (· ≤ ·) := by
  have hsplit : ys.take k ++ ys.drop k = ys := List.take_append_drop k ys
  rw [← hsplit, List.pairwise_append] at hs
  obtain ⟨p1, p2, p3⟩ := hs
  have dropge : ∀ b ∈ ys.drop k, x < b := fun b hb => by
    obtain ⟨j, hj, rfl⟩ := List.getElem_of_mem hb
    rw [List.length_drop] at hj
    have := h1 (k + j) (by omega) (by omega)
    rw [List.getElem_drop]
    simpa [nth, List.getD_eq_getElem?_getD, show k + j < ys.length by omega] using this
  have takele : ∀ a ∈ ys.take k, a ≤ x := fun a ha => by
    obtain ⟨j, hj, rfl⟩ := List.getElem_of_mem ha
    rw [List.length_take] at hj
    rcases h2 with h2 | h2
    · omega
    · by_cases e : j = k - 1
      · subst e
        rw [List.getElem_take]
        simpa [nth, List.getD_eq_getElem?_getD, show k - 1 < ys.length by omega] using h2
      · have := List.pairwise_iff_getElem.1 p1 j (k - 1) (by rw [List.length_take]; omega) (by rw [List.length_take]; omega) (by omega)
        have h3 : (ys.take k)[k - 1]'(by rw [List.length_take]; omega) = nth ys (k - 1) 0 := by
          rw [List.getElem_take]; simp [nth, List.getD_eq_getElem?_getD, show k - 1 < ys.length by omega]
        rw [h3] at this
        exact Int.le_trans this h2
  rw [List.append_assoc, List.pairwise_append]
  refine ⟨p1, ?_, fun a ha b hb => ?_⟩
  · rw [List.singleton_append, List.pairwise_cons]
    exact ⟨fun b hb => by have := dropge b hb; omega, p2⟩
  · rcases List.mem_cons.1 hb with rfl | hb
    · exact takele a ha
    · exact p3 a ha b hb
theorem perm_ins {ys zs : List Int} {x : Int} {k : Nat} (hp : ys.Perm zs) : (ys.take k ++ [x] ++ ys.drop k).Perm (zs ++ [x]) := by
  have h1 : (ys.take k ++ [x] ++ ys.drop k).Perm (ys.take k ++ ys.drop k ++ [x]) := by
    rw [List.append_assoc, List.append_assoc]
    exact List.Perm.append_left _ List.perm_append_comm
  rw [List.take_append_drop] at h1
  exact h1.trans (hp.append_right _)
theorem sorted_is {ys xs : List Int} (hs : ys.Pairwise (· ≤ ·)) (hp : ys.Perm xs) : ys = sortI xs := by
  refine List.Perm.eq_of_pairwise (le := (· ≤ ·)) (fun a b _ _ h1 h2 => by omega) hs ?_ (hp.trans (List.mergeSort_perm xs _).symm)
  have := List.pairwise_mergeSort (le := fun x y : Int => decide (x ≤ y)) (fun a b c h1 h2 => by simp at h1 h2 ⊢; omega) (fun a b => by simp; omega) xs
  exact this.imp fun h => by simpa using h
set_option maxRecDepth 8000 in
set_option maxHeartbeats 1000000 in
theorem sorted_c {v : Value} {xs : List Int} (h : Fl H v xs) (hl : xs.length ≤ 1048576) (hk : ∀ w H', AKeep H H' → FlH H.size H' w (sortI xs) → Kk w H') : callA Try.prog 24 #[v] H Kk := by
  have hb := h.lt
  refine call_go (fn := Try.f24) (rs := [.tmp 2]) [8] (by kernel_rfl) rfl rfl follows (by kernel_rfl) ?_
  simp only [go_sem, seval]
  refine loopF [3, 4, 5, 7, 8, 9, 10, 11, 12, 13, 14, 15, 16, 17, 18, 19, 20, 21, 22, 23, 24, 25, 26, 27, 28, 29, 30, 31, 32, 33, 34, 35, 36, 37, 38, 39, 40, 41, 42, 43, 44, 45] (by kernel_rfl) (I := fun nM σ G => ∃ i sv ys, nM = xs.length - i ∧ σ 4 = .int .i64 (i : Nat) ∧ σ 3 = sv ∧ i ≤ xs.length ∧ AKeep H G ∧ FlH H.size G sv ys ∧ ys.Pairwise (· ≤ ·) ∧ ys.Perm (xs.take i)) _ ⟨0, .slice (some ⟨H.size, 0, none⟩) 0 0, [], rfl, ?s4, ?s3, by omega, AKeep.push _ _, FlH.lit rfl, List.Pairwise.nil, List.Perm.refl _⟩ ?_

  case s4 => first | (simp only [go_sem, seval]; done) | (simp only [go_sem, seval]; rfl) | (simp only [go_sem, seval, *]; done) | (simp only [go_sem, seval]; simp; done)
  case s3 => first | (simp only [go_sem, seval]; done) | (simp only [go_sem, seval]; rfl) | (simp only [go_sem, seval, *]; done) | (simp only [go_sem, seval]; simp; done)
  rintro _ σ1 _ ⟨i, sv, ys, rfl, s4, s3, hi, kG, aG, hsort, hperm⟩ hs R ih
  rename_i G0
  simp only [go_sem, seval, s4, hs, fl_len h]
  refine fork (fun hlt => ?_) (fun hlt => ?_)
  · have hlt : i < xs.length := (dec_lt hlt).1 rfl
    have hyl : ys.length = i := by have := hperm.length_eq; rw [List.length_take] at this; omega
    obtain ⟨x, hx⟩ : ∃ x, nth xs i Enc.d = x := ⟨_, rfl⟩
    simp only [go_sem, seval, s3, fl_len aG.fl]
    refine loopF [5, 15, 16, 17, 18, 19, 20, 21, 22, 23, 24, 25, 26, 27, 28, 29, 30] (by kernel_rfl) (I := fun nM σ G => ∃ k, nM = 2 * k ∧ σ 5 = .int .i64 (k : Nat) ∧ G = G0 ∧ k ≤ ys.length ∧ (∀ j, k ≤ j → j < ys.length → x < nth ys j 0)) _ ⟨ys.length, rfl, ?s5, rfl, by omega, fun j h1 h2 => by omega⟩ ?_

    case s5 => first | (simp only [go_sem, seval]; done) | (simp only [go_sem, seval]; rfl) | (simp only [go_sem, seval, *]; done) | (simp only [go_sem, seval]; simp; done)
    rintro _ σb _ ⟨k, rfl, s5b, rfl, hkl, hgt⟩ hsb Rb ihb
    rename_i G0
    simp only [go_sem, seval, s5b]
    have g := h.keep kG
    have lx : ∀ {t : TypeId} {K : Value → Prop}, tVar Try.prog t = some (1, false) → aLoad Try.prog _ t (elemPtr v (i * 1)) K = K (.int .i64 x) := fun {t K} ht => by rw [fl_load0 g sz_int ht hlt, hx]; rfl
    by_cases hk0 : k = 0
    · subst hk0
      have c0 : decide ((0 : Int) < ((0 : Nat) : Int)) = false := by simp
      simp only [go_sem, seval, hsb, s4, s3, s5b, c0]
      have a0 := FlH.lit (α := Int) (H := G0) (sz := 1) rfl
      have aL := aG.keep (AKeep.push _ (.rw 1 []))
      have hyz : ∀ id, idOf sv = some id → id < G0.size := fun id e => aG.low e
      have hz0 := kG.size
      refine FlH.take aL sz_int (by simp only [go_sem, seval]) (by omega) fun p hp hpid => ?_
      obtain ⟨pa, pm, pc, rfl⟩ := hp.slice
      simp only [go_sem, seval]
      refine fl_lit_apps (lo := G0.size) (At.new _) (Nat.le_refl _) hp.fl sz_int (by simp only [go_sem, seval]) (by rw [List.length_take]; omega) (by rw [List.length_take]; unfold big; omega) fun w1 G1 b1 kk1 n1 => ?_
      have z1 := kk1.size
      rw [size_push] at z1
      have kl1 := kk1
      replace kk1 := kk1.push1
      have g1 := g.keep kk1
      have lx1 : ∀ {t : TypeId} {K : Value → Prop}, tVar Try.prog t = some (1, false) → aLoad Try.prog G1 t (elemPtr v i) K = K (.int .i64 x) := fun {t K} ht => by have := fl_load0 (P := Try.prog) (t := t) (K := K) g1 sz_int ht hlt; rw [Nat.mul_one] at this; rw [this, hx]; rfl
      obtain ⟨w1a, w1m, w1c, rfl⟩ := b1.slice
      simp only [go_sem, seval]
      refine ⟨draw2_keep kl1, ?_⟩
      simp only [go_sem, seval, hsb, hs, s4, fl_index g1 sz_int, hlt, lx1]
      refine fl_app (α := Int) (a := x) (b1.keep (AKeep.push _ _)) sz_int (by rw [size_push]; omega) rfl (by rw [List.length_take]; omega) (by rw [List.length_take]; unfold big; omega) fun w2 G2 b2 z2 f2 n2 => ?_
      rw [size_push] at z2
      have o2 : ∀ id, id < G0.size → G2.get id = G1.get id := fun id hid => by rw [f2 id (by rw [size_push]; omega) (fun e => by have := b1.above e; omega), get_push_lt _ _ _ (by omega)]
      have kk2 : AKeep G0 G2 := ⟨by omega, fun id hid => by rw [o2 id hid, kk1.get id hid]⟩
      refine ⟨draw2_weak (by kernel_rfl), ?_⟩
      simp only [go_sem, seval, hsb, hs, s3, s5b]
      refine Fl.drop (aG.keep kk2).fl sz_int (by simp only [go_sem, seval]) (by omega) fun r hr hrid => ?_
      obtain ⟨ra, rm, rc, rfl⟩ := hr.slice
      simp only [go_sem, seval]
      refine fl_apps b2 hr sz_int (by simp only [go_sem, seval]) (by omega) (by simp only [List.nil_append, List.length_append, List.length_take, List.length_drop, List.length_cons, List.length_nil]; omega) (by simp only [List.nil_append, List.length_append, List.length_take, List.length_drop, List.length_cons, List.length_nil]; unfold big; omega) fun w3 G3 b3 z3 f3 n3 => ?_
      have o3 : ∀ id, id < G0.size → G3.get id = G2.get id := fun id hid => by rw [f3 id (by omega) (fun e => by have := b2.above e; omega)]
      simp only [go_sem, seval, s4, hsb, wrap_succ (Nat.lt_of_le_of_lt hlt hb)]
      refine ⟨draw2_weak (by kernel_rfl), ?_⟩
      refine ⟨floatCond_cons (l := []) (by kernel_rfl) floatOne_nil (floatCond_cons (l := [.tmp 42]) (by kernel_rfl) (floatOne_cons (fun id e => ?_) floatOne_nil) (by rw [float_keep kl1]; simp only [go_sem, seval])), ?_⟩
      · simp only [go_sem, seval] at e
        have := hyz id (Row.objOf aG.fl e)
        exact f2 id (by rw [size_push]; omega) fun e2 => by have := b1.above e2; omega
      refine ih _ (by omega) _ _ ⟨i + 1, w3, ys.take 0 ++ [x] ++ ys.drop 0, rfl, by simp only [go_sem, seval], by simp only [go_sem, seval], by omega, ⟨by omega, fun id hid => by rw [o3 id (by omega), kk2.get id (by omega), kG.get id hid]⟩, b3.le (by omega), sorted_ins hsort (by omega) hgt (.inl rfl), by rw [tk_succ xs i Enc.d hlt, hx]; exact perm_ins hperm⟩
    have c0 : decide ((0 : Int) < (k : Int)) = true := by simp; omega
    have wk : IntKind.i64.wrap ((k : Int) - 1) = ((k - 1 : Nat) : Int) := by rw [wrap_id (by omega) (by omega)]; omega
    have hk1 : k - 1 < ys.length := by omega
    have ly : ∀ {t : TypeId} {K : Value → Prop}, tVar Try.prog t = some (1, false) → aLoad Try.prog _ t (elemPtr sv ((k - 1) * 1)) K = K (.int .i64 (nth ys (k - 1) 0)) := fun {t K} ht => by rw [fl_load0 aG.fl sz_int ht hk1]; rfl
    simp only [Nat.mul_one] at lx ly
    by_cases hgx : x < nth ys (k - 1) 0
    · have c1 : decide (x < nth ys (k - 1) 0) = true := by simpa using hgx
      simp only [go_sem, seval, hsb, hs, s4, s3, s5b, c0, wk, fl_index aG.fl sz_int, fl_index g sz_int, hk1, hlt, lx, ly, c1]
      refine ihb _ (by omega) _ _ ⟨k - 1, rfl, by simp only [go_sem, seval], rfl, by omega, fun j h1 h2 => ?_⟩
      by_cases e : j = k - 1
      · rw [e]; exact hgx
      · exact hgt j (by omega) h2
    · have c1 : decide (x < nth ys (k - 1) 0) = false := by simpa using hgx
      simp only [go_sem, seval, hsb, hs, s4, s3, s5b, c0, wk, fl_index aG.fl sz_int, fl_index g sz_int, hk1, hlt, lx, ly, c1]
      have a0 := FlH.lit (α := Int) (H := G0) (sz := 1) rfl
      have aL := aG.keep (AKeep.push _ (.rw 1 []))
      have hyz : ∀ id, idOf sv = some id → id < G0.size := fun id e => aG.low e
      have hz0 := kG.size
      refine FlH.take aL sz_int (by simp only [go_sem, seval]) (by omega) fun p hp hpid => ?_
      obtain ⟨pa, pm, pc, rfl⟩ := hp.slice
      simp only [go_sem, seval]
      refine fl_lit_apps (lo := G0.size) (At.new _) (Nat.le_refl _) hp.fl sz_int (by simp only [go_sem, seval]) (by rw [List.length_take]; omega) (by rw [List.length_take]; unfold big; omega) fun w1 G1 b1 kk1 n1 => ?_
      have z1 := kk1.size
      rw [size_push] at z1
      have kl1 := kk1
      replace kk1 := kk1.push1
      have g1 := g.keep kk1
      have lx1 : ∀ {t : TypeId} {K : Value → Prop}, tVar Try.prog t = some (1, false) → aLoad Try.prog G1 t (elemPtr v i) K = K (.int .i64 x) := fun {t K} ht => by have := fl_load0 (P := Try.prog) (t := t) (K := K) g1 sz_int ht hlt; rw [Nat.mul_one] at this; rw [this, hx]; rfl
      obtain ⟨w1a, w1m, w1c, rfl⟩ := b1.slice
      simp only [go_sem, seval]
      refine ⟨draw2_keep kl1, ?_⟩
      simp only [go_sem, seval, hsb, hs, s4, fl_index g1 sz_int, hlt, lx1]
      refine fl_app (α := Int) (a := x) (b1.keep (AKeep.push _ _)) sz_int (by rw [size_push]; omega) rfl (by rw [List.length_take]; omega) (by rw [List.length_take]; unfold big; omega) fun w2 G2 b2 z2 f2 n2 => ?_
      rw [size_push] at z2
      have o2 : ∀ id, id < G0.size → G2.get id = G1.get id := fun id hid => by rw [f2 id (by rw [size_push]; omega) (fun e => by have := b1.above e; omega), get_push_lt _ _ _ (by omega)]
      have kk2 : AKeep G0 G2 := ⟨by omega, fun id hid => by rw [o2 id hid, kk1.get id hid]⟩
      refine ⟨draw2_weak (by kernel_rfl), ?_⟩
      simp only [go_sem, seval, hsb, hs, s3, s5b]
      refine Fl.drop (aG.keep kk2).fl sz_int (by simp only [go_sem, seval]) (by omega) fun r hr hrid => ?_
      obtain ⟨ra, rm, rc, rfl⟩ := hr.slice
      simp only [go_sem, seval]
      refine fl_apps b2 hr sz_int (by simp only [go_sem, seval]) (by omega) (by simp only [List.nil_append, List.length_append, List.length_take, List.length_drop, List.length_cons, List.length_nil]; omega) (by simp only [List.nil_append, List.length_append, List.length_take, List.length_drop, List.length_cons, List.length_nil]; unfold big; omega) fun w3 G3 b3 z3 f3 n3 => ?_
      have o3 : ∀ id, id < G0.size → G3.get id = G2.get id := fun id hid => by rw [f3 id (by omega) (fun e => by have := b2.above e; omega)]
      simp only [go_sem, seval, s4, hsb, wrap_succ (Nat.lt_of_le_of_lt hlt hb)]
      refine ⟨draw2_weak (by kernel_rfl), ?_⟩
      refine ⟨floatCond_cons (l := []) (by kernel_rfl) floatOne_nil (floatCond_cons (l := [.tmp 42]) (by kernel_rfl) (floatOne_cons (fun id e => ?_) floatOne_nil) (by rw [float_keep kl1]; simp only [go_sem, seval])), ?_⟩
      · simp only [go_sem, seval] at e
        have := hyz id (Row.objOf aG.fl e)
        exact f2 id (by rw [size_push]; omega) fun e2 => by have := b1.above e2; omega
      refine ih _ (by omega) _ _ ⟨i + 1, w3, ys.take k ++ [x] ++ ys.drop k, rfl, by simp only [go_sem, seval], by simp only [go_sem, seval], by omega, ⟨by omega, fun id hid => by rw [o3 id (by omega), kk2.get id (by omega), kG.get id hid]⟩, b3.le (by omega), sorted_ins hsort (by omega) hgt (.inr (by omega)), by rw [tk_succ xs i Enc.d hlt, hx]; exact perm_ins hperm⟩
  · have hlt : ¬ i < xs.length := by intro h; have := (dec_lt hlt).2 h; cases this
    obtain rfl : i = xs.length := by omega
    simp only [go_sem, seval, s3]
    rw [List.take_of_length_le (Nat.le_refl _)] at hperm
    rw [sorted_is hsort hperm] at aG
    exact hk _ _ kG aG
end Go.Ah.A


/- The library's sort at this program, by the kit's shelf (plain words). -/
namespace Go.Proofs
open Go.Shelf
def Try.lays189_ren : Go.Shelf.Ren := ⟨fun | 189 => 29 | 125 => 49 | 257 => 48 | 128 => 65 | 129 => 66 | 294 => 56 | 295 => 57 | 296 => 58 | 297 => 59 | 298 => 60 | 299 => 61 | 216 => 62 | 300 => 63 | 301 => 64 | 328 => 69 | 329 => 70 | 330 => 71 | 331 => 72 | 332 => 73 | 215 => 54 | 343 => 75 | n => n, fun | 28 => 40 | 3 => 3 | 46 => 71 | 0 => 0 | 51 => 86 | 53 => 59 | 4 => 4 | 183 => 78 | 182 => 77 | 131 => 83 | 5 => 5 | 9 => 9 | 218 => 90 | 222 => 94 | 228 => 96 | 229 => 48 | n => n, fun | n => n⟩
theorem Try.lays189 : Go.Proofs.Lays.n189 Try.prog Try.lays189_ren := {
  mixed := by kernel_rfl
  f125 := Try.func49.trans (congrArg some (by kernel_rfl))
  f128 := Try.func65.trans (congrArg some (by kernel_rfl))
  f129 := Try.func66.trans (congrArg some (by kernel_rfl))
  f189 := Try.func29.trans (congrArg some (by kernel_rfl))
  f215 := Try.func54.trans (congrArg some (by kernel_rfl))
  f216 := Try.func62.trans (congrArg some (by kernel_rfl))
  f257 := Try.func48.trans (congrArg some (by kernel_rfl))
  f294 := Try.func56.trans (congrArg some (by kernel_rfl))
  f295 := Try.func57.trans (congrArg some (by kernel_rfl))
  f296 := Try.func58.trans (congrArg some (by kernel_rfl))
  f297 := Try.func59.trans (congrArg some (by kernel_rfl))
  f298 := Try.func60.trans (congrArg some (by kernel_rfl))
  f299 := Try.func61.trans (congrArg some (by kernel_rfl))
  f300 := Try.func63.trans (congrArg some (by kernel_rfl))
  f301 := Try.func64.trans (congrArg some (by kernel_rfl))
  f328 := Try.func69.trans (congrArg some (by kernel_rfl))
  f329 := Try.func70.trans (congrArg some (by kernel_rfl))
  f330 := Try.func71.trans (congrArg some (by kernel_rfl))
  f331 := Try.func72.trans (congrArg some (by kernel_rfl))
  f332 := Try.func73.trans (congrArg some (by kernel_rfl))
  f343 := Try.func75.trans (congrArg some (by kernel_rfl))
  t0 := Try.underlying0
  a0 := Try.isAgg0
  z0 := Try.sizeOf0
  v0 := Try.zeroValue0
  t3 := Try.underlying3
  a3 := Try.isAgg3
  z3 := Try.sizeOf3
  v3 := Try.zeroValue3
  t4 := Try.underlying4
  a4 := Try.isAgg4
  z4 := Try.sizeOf4
  v4 := Try.zeroValue4
  t5 := Try.underlying5
  a5 := Try.isAgg5
  z5 := Try.sizeOf5
  v5 := Try.zeroValue5
  t9 := Try.underlying9
  a9 := Try.isAgg9
  z9 := Try.sizeOf9
  v9 := Try.zeroValue9
  t28 := Try.underlying40
  a28 := Try.isAgg40
  z28 := Try.sizeOf40
  v28 := Try.zeroValue40
  t46 := Try.underlying71
  a46 := Try.isAgg71
  z46 := Try.sizeOf71
  v46 := Try.zeroValue71
  t51 := Try.underlying86
  a51 := Try.isAgg86
  z51 := Try.sizeOf86
  v51 := Try.zeroValue86
  t53 := Try.underlying59
  a53 := Try.isAgg59
  z53 := Try.sizeOf59
  v53 := Try.zeroValue59
  t131 := Try.underlying83
  a131 := Try.isAgg83
  z131 := Try.sizeOf83
  v131 := Try.zeroValue83
  t182 := Try.underlying77
  a182 := Try.isAgg77
  z182 := Try.sizeOf77
  v182 := Try.zeroValue77
  t183 := Try.underlying78
  a183 := Try.isAgg78
  z183 := Try.sizeOf78
  v183 := Try.zeroValue78
  t218 := Try.underlying90
  a218 := Try.isAgg90
  z218 := Try.sizeOf90
  v218 := Try.zeroValue90
  t222 := Try.underlying94
  a222 := Try.isAgg94
  z222 := Try.sizeOf94
  v222 := Try.zeroValue94
  t228 := Try.underlying96
  a228 := Try.isAgg96
  z228 := Try.sizeOf96
  v228 := Try.zeroValue96
  t229 := Try.underlying48
  a229 := Try.isAgg48
  z229 := Try.sizeOf48
  v229 := Try.zeroValue48 }
open Go.Sort Go.RowKit in
theorem Try.slices_Sort_int (blk off cap : Nat) (zs : List Int) (w : World) (hH : Holds (Value.int .i64) w blk off zs.toArray) (hblk : blk < w.heap.size) (hsz : zs.length < 4611686018427387904) :
    Calls Try.prog 29 #[.slice (some ⟨blk, off, none⟩) zs.length cap] w fun e w' =>
      e = .returned (.tuple #[]) ∧ ∃ n os, w' = grow (putRow (Value.int .i64) (Sort.ahead w n) blk off (zs.mergeSort fun x y => decide (x ≤ y)).toArray) os := Any.slices_Sort_int Try.lays189 blk off cap zs w hH hblk hsz
end Go.Proofs

namespace Go.Ah.A
open Go Go.Ah Go.Proofs
set_option linter.unusedSimpArgs false
variable {H : AHeap} {Kk : Value → AHeap → Prop}
theorem slicesSort_c {lo : Nat} {v : Value} {xs : List Int} (h : FlH lo H v xs) (h0 : 0 < xs.length) (hs : xs.length < 4611686018427387904) (hk : ∀ H', FlH lo H' v (sortI xs) → H'.size = H.size → (∀ id, idOf v ≠ some id → H'.get id = H.get id) → Kk (.tuple #[]) H') : callA Try.prog 29 #[v] H Kk :=
  sort_ints (fn := Try.f29) (by kernel_rfl) rfl rfl Try.slices_Sort_int h h0 hs hk
/-- The lower and the upper middle, and half their sum in lowest terms. -/
def med2 (xs : List Int) : Nat := (nth (sortI xs) ((xs.length - 1) / 2) 0 + nth (sortI xs) (xs.length / 2) 0).toNat
def medP (xs : List T3) : Int × Int × Bool := if validS xs = true ∧ xs.length ≠ 0 then (((med2 (hours xs) / Nat.gcd (med2 (hours xs)) 2 : Nat) : Int), ((2 / Nat.gcd (med2 (hours xs)) 2 : Nat) : Int), true) else (0, 0, false)
theorem hours_bd {xs : List T3} (hg : xs.all goodS = true) : ∀ x ∈ hours xs, 0 ≤ x ∧ x ≤ 240 := by
  intro x hx
  unfold hours at hx
  obtain ⟨s, hs, rfl⟩ := List.mem_map.1 hx
  have := List.all_eq_true.1 hg _ hs
  unfold goodS at this
  simp at this
  omega
theorem sort_bd {xs : List T3} (hg : xs.all goodS = true) {i : Nat} (h : i < xs.length) : 0 ≤ nth (sortI (hours xs)) i 0 ∧ nth (sortI (hours xs)) i 0 ≤ 240 := by
  have hl : i < (sortI (hours xs)).length := by rw [sortI_len, hours_len]; exact h
  refine hours_bd hg _ ?_
  exact (List.mergeSort_perm (hours xs) _).mem_iff.1 (nth_in (d := (0 : Int)) hl)
set_option maxRecDepth 8000 in
theorem imMedian_c {v : Value} {xs : List T3} (h : Fl H v xs) (hk : ∀ H', AKeep H H' → Kk (.tuple #[.int .i64 (medP xs).1, .int .i64 (medP xs).2.1, .bool (medP xs).2.2]) H') : callA Try.prog 8 #[v] H Kk := by
  unfold medP at hk
  refine call_go (fn := Try.f8) (rs := [.tmp 2, .tmp 3, .tmp 4]) [] (by kernel_rfl) rfl rfl follows (by kernel_rfl) ?_
  simp only [go_sem, seval]
  refine imValid_c h fun G kG => ?_
  by_cases hv : validS xs = true
  rotate_left
  · have hv' : validS xs = false := by simpa using hv
    rw [if_neg (fun e => hv e.1)] at hk
    simp only [go_sem, seval, hv']
    exact hk _ kG
  by_cases hn : xs.length = 0
  · have hn' : ((xs.length : Int) == 0) = true := by simp; exact List.eq_nil_of_length_eq_zero hn
    rw [if_neg (fun e => e.2 hn)] at hk
    simp only [go_sem, seval, hv, fl_len h, hn']
    exact hk _ kG
  have hn' : ((xs.length : Int) == 0) = false := by simp; intro e; exact hn (by rw [e]; rfl)
  rw [if_pos ⟨hv, hn⟩] at hk
  obtain ⟨hg, hl⟩ : xs.all goodS = true ∧ xs.length ≤ 20 := by unfold validS at hv; simpa using hv
  simp only [go_sem, seval, hv, fl_len h, hn']
  refine lengthsOf_c (h.keep kG) hg hl fun w G1 k1 a1 => ?_
  simp only [go_sem, seval]
  refine slicesSort_c a1 (by rw [hours_len]; omega) (by rw [hours_len]; omega) fun G2 a2 z2 f2 => ?_
  have hsl : (sortI (hours xs)).length = xs.length := by rw [sortI_len, hours_len]
  have kk : AKeep H G2 := by
    have k3 := kG.trans k1
    have z1 := k1.size
    have z0 := kG.size
    exact ⟨by have := k3.size; omega, fun id hid => by rw [f2 id (fun e => by have := a1.above e; omega), k3.get id hid]⟩
  have w1 : IntKind.i64.wrap ((xs.length : Int) - 1) = ((xs.length - 1 : Nat) : Int) := by rw [wrap_id (by omega) (by omega)]; omega
  have w2 : IntKind.i64.wrap (((xs.length - 1 : Nat) : Int) + 1) = ((xs.length : Nat) : Int) := by rw [wrap_id (by omega) (by omega)]; omega
  have d1 : (((xs.length - 1 : Nat) : Int)).tdiv 2 = (((xs.length - 1) / 2 : Nat) : Int) := tdiv_nat _ 2
  have d2 : ((xs.length : Nat) : Int).tdiv 2 = ((xs.length / 2 : Nat) : Int) := tdiv_nat _ 2
  have v1 : IntKind.i64.wrap (((xs.length - 1) / 2 : Nat) : Int) = (((xs.length - 1) / 2 : Nat) : Int) := wrap_nat (by omega)
  have v2 : IntKind.i64.wrap ((xs.length / 2 : Nat) : Int) = ((xs.length / 2 : Nat) : Int) := wrap_nat (by omega)
  have i1 : (xs.length - 1) / 2 < (sortI (hours xs)).length := by omega
  have i2 : xs.length / 2 < (sortI (hours xs)).length := by omega
  have j1 : (xs.length - 1) / 2 < xs.length := by omega
  have j2 : xs.length / 2 < xs.length := by omega
  have q1 := sort_bd hg (i := (xs.length - 1) / 2) (by omega)
  have q2 := sort_bd hg (i := xs.length / 2) (by omega)
  have l1 : ∀ {t : TypeId} {K : Value → Prop}, tVar Try.prog t = some (1, false) → aLoad Try.prog G2 t (elemPtr w ((xs.length - 1) / 2)) K = K (.int .i64 (nth (sortI (hours xs)) ((xs.length - 1) / 2) 0)) := fun {t K} ht => by have := fl_load0 (P := Try.prog) (t := t) (K := K) a2.fl sz_int ht i1; rw [Nat.mul_one] at this; rw [this]; rfl
  have l2 : ∀ {t : TypeId} {K : Value → Prop}, tVar Try.prog t = some (1, false) → aLoad Try.prog G2 t (elemPtr w (xs.length / 2)) K = K (.int .i64 (nth (sortI (hours xs)) (xs.length / 2) 0)) := fun {t K} ht => by have := fl_load0 (P := Try.prog) (t := t) (K := K) a2.fl sz_int ht i2; rw [Nat.mul_one] at this; rw [this]; rfl
  have em : IntKind.i64.wrap (nth (sortI (hours xs)) ((xs.length - 1) / 2) 0 + nth (sortI (hours xs)) (xs.length / 2) 0) = ((med2 (hours xs) : Nat) : Int) := by
    rw [wrap_id (by omega) (by omega)]; unfold med2; rw [hours_len]; omega
  have hm : med2 (hours xs) ≤ 480 := by unfold med2; rw [hours_len]; omega
  simp only [go_sem, seval, fl_len a2.fl, hsl, w1, w2, d1, d2, v1, v2, fl_index a2.fl sz_int, i1, i2, j1, j2, l1, l2, em]
  refine fraction_c (n := med2 (hours xs)) (d := 2) (by omega) (by omega) (by omega) ?_
  simp only [go_sem, seval]
  exact hk _ kk
set_option maxRecDepth 8000 in
theorem spMedian_c {v : Value} {xs : List T3} (h : Fl H v xs) (hk : ∀ H', AKeep H H' → Kk (.tuple #[.int .i64 (medP xs).1, .int .i64 (medP xs).2.1, .bool (medP xs).2.2]) H') : callA Try.prog 6 #[v] H Kk := by
  unfold medP at hk
  refine call_go (fn := Try.f6) (rs := [.tmp 2, .tmp 3, .tmp 4]) [] (by kernel_rfl) rfl rfl follows (by kernel_rfl) ?_
  simp only [go_sem, seval]
  refine spGood_c h ?_
  by_cases hv : validS xs = true
  rotate_left
  · have hv' : validS xs = false := by simpa using hv
    rw [if_neg (fun e => hv e.1)] at hk
    simp only [go_sem, seval, hv']
    exact hk _ (AKeep.refl _)
  by_cases hn : xs.length = 0
  · have hn' : ((xs.length : Int) == 0) = true := by simp; exact List.eq_nil_of_length_eq_zero hn
    rw [if_neg (fun e => e.2 hn)] at hk
    simp only [go_sem, seval, hv, fl_len h, hn']
    exact hk _ (AKeep.refl _)
  have hn' : ((xs.length : Int) == 0) = false := by simp; intro e; exact hn (by rw [e]; rfl)
  rw [if_pos ⟨hv, hn⟩] at hk
  obtain ⟨hg, hl⟩ : xs.all goodS = true ∧ xs.length ≤ 20 := by unfold validS at hv; simpa using hv
  simp only [go_sem, seval, hv, fl_len h, hn']
  refine hours_c h hg hl fun w G1 k1 a1 => ?_
  simp only [go_sem, seval]
  refine sorted_c a1.fl (by rw [hours_len]; omega) fun w2 G2 k2 a2 => ?_
  have hsl : (sortI (hours xs)).length = xs.length := by rw [sortI_len, hours_len]
  have w1 : IntKind.i64.wrap ((xs.length : Int) - 1) = ((xs.length - 1 : Nat) : Int) := by rw [wrap_id (by omega) (by omega)]; omega
  have d1 : (((xs.length - 1 : Nat) : Int)).tdiv 2 = (((xs.length - 1) / 2 : Nat) : Int) := tdiv_nat _ 2
  have d2 : ((xs.length : Nat) : Int).tdiv 2 = ((xs.length / 2 : Nat) : Int) := tdiv_nat _ 2
  have v1 : IntKind.i64.wrap (((xs.length - 1) / 2 : Nat) : Int) = (((xs.length - 1) / 2 : Nat) : Int) := wrap_nat (by omega)
  have v2 : IntKind.i64.wrap ((xs.length / 2 : Nat) : Int) = ((xs.length / 2 : Nat) : Int) := wrap_nat (by omega)
  have i1 : (xs.length - 1) / 2 < (sortI (hours xs)).length := by omega
  have i2 : xs.length / 2 < (sortI (hours xs)).length := by omega
  have j1 : (xs.length - 1) / 2 < xs.length := by omega
  have j2 : xs.length / 2 < xs.length := by omega
  have q1 := sort_bd hg (i := (xs.length - 1) / 2) (by omega)
  have q2 := sort_bd hg (i := xs.length / 2) (by omega)
  have l1 : ∀ {t : TypeId} {K : Value → Prop}, tVar Try.prog t = some (1, false) → aLoad Try.prog G2 t (elemPtr w2 ((xs.length - 1) / 2)) K = K (.int .i64 (nth (sortI (hours xs)) ((xs.length - 1) / 2) 0)) := fun {t K} ht => by have := fl_load0 (P := Try.prog) (t := t) (K := K) a2.fl sz_int ht i1; rw [Nat.mul_one] at this; rw [this]; rfl
  have l2 : ∀ {t : TypeId} {K : Value → Prop}, tVar Try.prog t = some (1, false) → aLoad Try.prog G2 t (elemPtr w2 (xs.length / 2)) K = K (.int .i64 (nth (sortI (hours xs)) (xs.length / 2) 0)) := fun {t K} ht => by have := fl_load0 (P := Try.prog) (t := t) (K := K) a2.fl sz_int ht i2; rw [Nat.mul_one] at this; rw [this]; rfl
  have em : IntKind.i64.wrap (nth (sortI (hours xs)) ((xs.length - 1) / 2) 0 + nth (sortI (hours xs)) (xs.length / 2) 0) = ((med2 (hours xs) : Nat) : Int) := by
    rw [wrap_id (by omega) (by omega)]; unfold med2; rw [hours_len]; omega
  have hm : med2 (hours xs) ≤ 480 := by unfold med2; rw [hours_len]; omega
  simp only [go_sem, seval, fl_len a2.fl, hsl, w1, d1, d2, v1, v2, fl_index a2.fl sz_int, i1, i2, j1, j2, l1, l2, em]
  refine reduce_c (n := med2 (hours xs)) (d := 2) (by omega) (by omega) (by omega) ?_
  simp only [go_sem, seval]
  exact hk _ (k1.trans k2)
end Go.Ah.A

