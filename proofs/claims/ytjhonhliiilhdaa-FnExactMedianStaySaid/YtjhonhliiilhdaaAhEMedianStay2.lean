/- The law FnExactMedianStay: for all arguments MedianStay of the program returns what the reference returns, and leaves its argument as it is. No condition. -/
import Derived.Test.YtjhonhliiilhdaaAhEMedianStay1
set_option linter.all false
namespace Go.Ah.A
open Go Go.Ah Go.Proofs
set_option linter.unusedSimpArgs false
variable {H : AHeap} {Kk : Value → AHeap → Prop}
set_option maxRecDepth 8000 in
theorem toStay_c {a b c : Int} (hk : ∀ H', AKeep H H' → Kk (.agg #[.int .i64 a, .int .i64 b, .int .i64 c]) H') : callA Try.prog 27 #[.agg #[.int .i64 a, .int .i64 b, .int .i64 c]] H Kk := by
  refine call_go (fn := Try.f27) (rs := [.cell 2 34]) [] (by kernel_rfl) rfl rfl follows (by kernel_rfl) ?_
  simp only [go_sem, seval, push_p, pushes_p, size_p, get_p, get_p0, set_p, set_p0]
  exact hk _ keep_p
set_option maxRecDepth 8000 in
theorem eqStay_c {a b c a' b' c' : Int} (hk : ∀ H', AKeep H H' → Kk (.bool (decide (a = a' ∧ b = b' ∧ c = c'))) H') : callA Try.prog 31 #[.agg #[.int .i64 a, .int .i64 b, .int .i64 c], .agg #[.int .i64 a', .int .i64 b', .int .i64 c']] H Kk := by
  refine call_go (fn := Try.f31) (rs := [.tmp 4]) [] (by kernel_rfl) rfl rfl follows (by kernel_rfl) ?_
  simp only [go_sem, seval, push_p, pushes_p, size_p, get_p, get_p0, set_p, set_p0]
  refine fork (fun h1 => ?_) (fun h1 => ?_) <;> simp only [go_sem, seval, push_p, pushes_p, size_p, get_p, get_p0, set_p, set_p0]
  · rw [decide_eq_false (by simp at h1; simp [h1])] at hk; exact hk _ keep_p
  · refine fork (fun h2 => ?_) (fun h2 => ?_) <;> simp only [go_sem, seval, push_p, pushes_p, size_p, get_p, get_p0, set_p, set_p0]
    · rw [decide_eq_false (by simp at h2; simp [h2])] at hk; exact hk _ keep_p
    · refine fork (fun h3 => ?_) (fun h3 => ?_) <;> simp only [go_sem, seval, push_p, pushes_p, size_p, get_p, get_p0, set_p, set_p0]
      · rw [decide_eq_false (by simp at h3; simp [h3])] at hk; exact hk _ keep_p
      · rw [decide_eq_true (by simp at h1 h2 h3; exact ⟨h1, h2, h3⟩)] at hk; exact hk _ keep_p
set_option maxRecDepth 8000 in
theorem szStayS_c {v : Value} {xs : List T3} {left : Int} (h : Fl H v xs) (hl : 0 ≤ left ∧ left ≤ 1048576) (hk : ∀ r : Int, (0 ≤ r → (xs.length : Int) ≤ left) → r ≤ left → Kk (.int .i64 r) H) : callA Try.prog 5 #[v, .int .i64 left] H Kk := by
  have hb := h.lt
  unfold big at hb
  refine call_go (fn := Try.f5) (rs := [.tmp 4]) [] (by kernel_rfl) rfl rfl follows (by kernel_rfl) ?_
  simp only [go_sem, seval, fl_len h, wrap_id (n := left - xs.length) (by omega) (by omega)]
  refine fork (fun h1 => ?_) (fun h1 => ?_) <;> simp only [go_sem, seval]
  · exact hk _ (by omega) (by omega)
  · have h1 : ¬ left - xs.length < 0 := by simpa using h1
    exact hk _ (by omega) (by omega)
set_option maxRecDepth 8000 in
theorem toStayS_h {v : Value} {xs : List T3} (h : Fl H v xs) (hl : xs.length ≤ 1048576) (hk : ∀ v' H', AKeep H H' → FlH H.size H' v' xs → Kk v' H') : callA Try.prog 7 #[v] H Kk := by
  have hb := h.lt
  refine call_go (fn := Try.f7) (rs := [.tmp 2]) [] (by kernel_rfl) rfl rfl follows (by kernel_rfl) ?_
  simp only [go_sem, seval, fl_len h]
  refine make_by (sz := 3) (b := 24) (z := .agg #[.int .i64 0, .int .i64 0, .int .i64 0]) (by simp only [go_sem, seval]) (by omega) (by unfold unk; omega) rfl (by omega) rfl ?_
  simp only [go_sem, seval]
  have a0 := made_t3 (H := H) (xs := xs) hb
  generalize hsv : Value.slice (some ⟨H.size, 0, none⟩) xs.length xs.length = sv at a0 ⊢
  refine loopF [4, 8, 9, 10, 11, 12, 13, 14, 15, 16, 17, 18, 19, 20, 21] (by kernel_rfl) (I := fun nM σ G => ∃ i, nM = xs.length - i ∧ σ 4 = .int .i64 (i : Nat) ∧ i ≤ xs.length ∧ AKeep H G ∧ FlH H.size G sv (upT xs i)) _ ⟨0, rfl, ?s4, by omega, AKeep.push _ _, a0⟩ ?_

  case s4 => first | (simp only [go_sem, seval]; done) | (simp only [go_sem, seval]; rfl) | (simp only [go_sem, seval, *]; done) | (simp only [go_sem, seval]; simp; done)
  rintro _ σ1 _ ⟨i, rfl, s4, hi, kG, aG⟩ hs R ih
  rename_i G
  simp only [go_sem, seval, s4, hs, fl_len h]
  refine fork (fun hlt => ?_) (fun hlt => ?_)
  · have hlt : i < xs.length := (dec_lt hlt).1 rfl
    have hl2 : i < (upT xs i).length := by rw [upT_len hi]; exact hlt
    simp only [go_sem, seval, hs, s4, fl_index (h.keep kG) sz_t3, fl_load (h.keep kG) sz_t3, hlt, enc_t3]
    refine toStay_c fun G2 k2 => ?_
    replace aG := aG.keep k2
    simp only [go_sem, seval, hs, fl_index aG.fl sz_t3, hl2]
    refine fl_put (a := nth xs i Enc.d) aG sz_t3 hl2 (by simp only [go_sem, seval]) rfl fun G3 a3 z3 f3 => ?_
    simp only [go_sem, seval, s4, wrap_succ (Nat.lt_of_le_of_lt hlt hb)]
    rw [upT_set hlt] at a3
    refine ih _ (by omega) _ _ ⟨i + 1, rfl, by simp only [go_sem, seval], by omega, ?_, a3⟩
    have kk := kG.trans k2
    exact ⟨by have := kk.size; omega, fun id hid => by rw [f3 id (fun e => by have := aG.above e; omega), kk.get id hid]⟩
  · have hlt : ¬ i < xs.length := by intro h; have := (dec_lt hlt).2 h; cases this
    obtain rfl : i = xs.length := by omega
    simp only [go_sem, seval, hs]
    rw [upT_all] at aG
    exact hk _ _ kG aG
set_option maxRecDepth 8000 in
theorem eqStayS_c {v u : Value} {xs ys : List T3} (h : Fl H v xs) (g : Fl H u ys) (hk : ∀ H', AKeep H H' → Kk (.bool (decide (xs = ys))) H') : callA Try.prog 9 #[v, u] H Kk := by
  have hb := h.lt
  refine call_go (fn := Try.f9) (rs := [.tmp 4]) [] (by kernel_rfl) rfl rfl follows (by kernel_rfl) ?_
  simp only [go_sem, seval, fl_len h, fl_len g]
  by_cases hl : xs.length = ys.length
  rotate_left
  · have hl' : ((xs.length : Int) != (ys.length : Int)) = true := by simp; omega
    simp only [go_sem, seval, hl']
    have : decide (xs = ys) = false := by simp; intro e; exact hl (by rw [e])
    rw [this] at hk
    exact hk _ (AKeep.refl _)
  have hl' : ((xs.length : Int) != (ys.length : Int)) = false := by simp; omega
  simp only [go_sem, seval, hl']
  refine loopF [4, 5, 11, 12, 13, 14, 15, 16, 17, 18, 19, 20, 21, 22, 23, 24, 25, 26] (by kernel_rfl) (I := fun nM σ G => ∃ i, nM = xs.length - i ∧ σ 5 = .int .i64 (i : Nat) ∧ i ≤ xs.length ∧ AKeep H G ∧ ∀ j, j < i → nth xs j Enc.d = nth ys j Enc.d) _ ⟨0, rfl, ?s5, by omega, AKeep.refl _, fun j hj => by omega⟩ ?_

  case s5 => first | (simp only [go_sem, seval]; done) | (simp only [go_sem, seval]; rfl) | (simp only [go_sem, seval, *]; done) | (simp only [go_sem, seval]; simp; done)
  rintro _ σ1 _ ⟨i, rfl, s5, hi, kG, hj⟩ hs R ih
  rename_i G
  simp only [go_sem, seval, s5, hs, fl_len h]
  refine fork (fun hlt => ?_) (fun hlt => ?_)
  · have hlt : i < xs.length := (dec_lt hlt).1 rfl
    have hlt2 : i < ys.length := by omega
    simp only [go_sem, seval, hs, s5, fl_index (h.keep kG) sz_t3, fl_index (g.keep kG) sz_t3, fl_load (h.keep kG) sz_t3, fl_load (g.keep kG) sz_t3, hlt, hlt2, enc_t3]
    refine eqStay_c fun G2 k2 => ?_
    simp only [go_sem, seval]
    refine ⟨callCond_keep k2, ?_⟩
    by_cases he : nth xs i Enc.d = nth ys i Enc.d
    · have : decide ((nth xs i Enc.d).1 = (nth ys i Enc.d).1 ∧ (nth xs i Enc.d).2.1 = (nth ys i Enc.d).2.1 ∧ (nth xs i Enc.d).2.2 = (nth ys i Enc.d).2.2) = true := by rw [he]; simp
      simp only [go_sem, seval, this, s5, wrap_succ (Nat.lt_of_le_of_lt hlt hb)]
      refine ih _ (by omega) _ _ ⟨i + 1, rfl, by simp only [go_sem, seval], by omega, kG.trans k2, fun j hj' => ?_⟩
      by_cases e : j = i
      · rw [e]; exact he
      · exact hj j (by omega)
    · have : decide ((nth xs i Enc.d).1 = (nth ys i Enc.d).1 ∧ (nth xs i Enc.d).2.1 = (nth ys i Enc.d).2.1 ∧ (nth xs i Enc.d).2.2 = (nth ys i Enc.d).2.2) = false := by
        simp only [decide_eq_false_iff_not]
        intro ⟨e1, e2, e3⟩
        exact he (Prod.ext e1 (Prod.ext e2 e3))
      simp only [go_sem, seval, this]
      have : decide (xs = ys) = false := by simp; intro e; exact he (by rw [e])
      rw [this] at hk
      exact hk _ (kG.trans k2)
  · have hlt : ¬ i < xs.length := by intro h; have := (dec_lt hlt).2 h; cases this
    simp only [go_sem, seval]
    have : decide (xs = ys) = true := by
      simp only [decide_eq_true_eq]
      exact nth_ext hl fun j hj' => hj j (by omega)
    rw [this] at hk
    exact hk _ kG
set_option maxRecDepth 8000 in
theorem law_MedianStay {a0 : Value} (r0 : Reads H [.sl 3 [.int .i64, .int .i64, .int .i64]] [a0]) :
    callA Try.prog 3 #[a0] H fun r _ => r = .bool true := by
  obtain ⟨w, xs, cs, e, l, -, r1⟩ := reads_t3 r0
  obtain ⟨rfl, rfl⟩ : a0 = w ∧ cs = [] := by have := reads_nil r1; subst this; simpa using e
  clear r0 r1 e
  refine call_go (fn := Try.f3) (rs := [.tmp 2]) [] (by kernel_rfl) rfl rfl follows (by kernel_rfl) ?_
  simp only [go_sem, seval]
  refine szStayS_c l (by omega) fun r hl hl2 => ?_
  by_cases hng : r < 0
  · have hng' : decide (r < 0) = true := by simpa using hng
    simp only [go_sem, seval, hng']
  have hng' : decide (r < 0) = false := by simpa using hng
  have hl3 : xs.length ≤ 1048576 := by have := hl (by omega); omega
  simp only [go_sem, seval, hng']
  refine toStayS_h l hl3 fun l1 H1 k1 L1 => ?_
  simp only [go_sem, seval]
  refine spMedian_c L1.fl fun H2 k2 => ?_
  have kH := k1.trans k2
  simp only [go_sem, seval]
  refine toStayS_h (l.keep kH) hl3 fun l2 H3 k3 L2 => ?_
  simp only [go_sem, seval]
  refine imMedian_c L2.fl fun H4 k4 => ?_
  have kH := (kH.trans k3).trans k4
  simp only [go_sem, seval]
  refine toStayS_h (l.keep kH) hl3 fun l3 H5 k5 L3 => ?_
  simp only [go_sem, seval]
  refine eqStayS_c ((L2.keep k4).keep k5).fl L3.fl fun H6 k6 => ?_
  simp only [go_sem, seval]
end Go.Ah.A


namespace Go.Ah.A.fnExactMedianStay
open Go Go.Ah Go.Proofs Go.Proofs.Ytjhonhliiilhdaa
open Go.ChangeShapes Go.WideShapes Go.ChangeAt Go.RowKit
set_option linter.unusedVariables false
theorem own : ownKnob Try.prog.godebug = none := by kernel_rfl
theorem laidOut : laidOutB Try.prog = true := by kernel_rfl
set_option maxRecDepth 100000 in
theorem lifted (os : Os) (started : os.Started) (H : Type) (enc : TypeId × Value → H) :
    ReturnsInHanded {} Try.checked os 3 .any (Rows.fnExactMedianStaySpec.pre6 enc Try.prog Try.f3 Rows.fnExactMedianStayRow.domain false) (Rows.fnExactMedianStaySpec.post enc Try.prog Try.f3 false true false false) := by
  refine returnsInHanded_of_change_sized (C := Try.checked) own started (by kernel_rfl) Try.func3
    (ChangeSpec.witness6 (enc := enc) (C := Try.checked) false ⟨#[], #[.slice none 0 0], []⟩ 8 (by kernel_rfl) (by kernel_rfl) (by kernel_rfl) (by kernel_rfl)) ?_
  intro W base args ds gs before hval0 hW hcnd hsz0 _
  have hval : ∀ (j : Nat) t v, Try.f3.params[j]? = some t → args[j]? = some v → Value.okWide Try.prog W .any base t v := hval0
  have hW' := hW
  obtain ⟨p, q, hA0, hV, rfl, hfz, hnd⟩ := hW
  have hA : DataW.TrodAll enc Try.prog W 0 (fun _ => true) true Try.f3.params.toList args.toList ds p := hA0
  rw [Try.params3] at hA hval
  obtain ⟨v0, vs0, d0, ds0, p0, q0, hargs, rfl, rfl, h0, hr0⟩ := trodAll_cons hA
  obtain ⟨rfl, rfl, rfl⟩ := trodAll_nil hr0
  obtain rfl : args = #[v0] := by cases args; simp_all
  obtain ⟨rfl, rfl⟩ := trodVars_none hV
  have k0 := h0
  have lt0 : ∀ x ∈ p0, x.block < W.heap.size := by obtain ⟨m, hm⟩ := k0; exact DataW.trod_lt m _ _ _ hm
  obtain ⟨i1, i2, i3⟩ := opened_nil (W := W)
  obtain ⟨m0, A0, a0, o0, e0, g0⟩ := open_slice (n := 8) Try.underlying22 (by kernel_rfl) (hval 0 22 v0 rfl rfl) h0 i1 i2 i3
  have hv : VRels m0 #[a0] #[v0] := VRelL.array ((VRelL.nil _).cons e0)
  refine (calls_of Try.func3 rfl (by kernel_rfl) (law_MedianStay g0) o0.1 o0.2.2.1 o0.2.2.2.1 hv).mono fun e W' ⟨v, v', he, ⟨m', A', hk, hvr⟩, bel⟩ => ?_
  subst hk
  cases hvr
  subst he
  exact ⟨_, rfl, _, _, _, [], _, [], hW', trodAll_mk1 (shut_bool Try.underlying4 _), trodAll_cons_mk (Below.trod laidOut (by kernel_rfl) (of_decide_eq_true (by kernel_rfl)) k0 bel lt0) (trodAll_mk0), rfl, bel.frame _, fun h => by cases h⟩
theorem over : Rows.fnExactMedianStayRow.holds Try.pinned (OpenSpec.ofChange Rows.fnExactMedianStaySpec) :=
  OpenClaim.holds_of_wide 3 Try.f3 rfl rfl rfl rfl rfl rfl rfl ⟨rfl, rfl, rfl, rfl, rfl⟩ rfl rfl rfl rfl rfl (by kernel_rfl) Try.func3 (by kernel_rfl)
    (of_decide_eq_true (by kernel_rfl)) (by unfold Func.isWrapper; first | (rw [if_pos (by decide +kernel)]; kernel_rfl) | (rw [if_neg (by decide +kernel)]; exact ⟨rfl, rfl⟩))
    (fun os started H enc _ => lifted os started H enc)
theorem proved : Rows.FnExactMedianStaySaid := over
end Go.Ah.A.fnExactMedianStay

namespace Go.Proofs.Ytjhonhliiilhdaa
open Go Go.Proofs.Ytjhonhliiilhdaa
theorem fnExactMedianStay_holds : Rows.FnExactMedianStaySaid := Go.Ah.A.fnExactMedianStay.over
#print axioms fnExactMedianStay_holds
end Go.Proofs.Ytjhonhliiilhdaa
