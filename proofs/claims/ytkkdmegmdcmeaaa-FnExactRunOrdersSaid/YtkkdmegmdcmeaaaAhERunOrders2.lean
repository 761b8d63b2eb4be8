/- The law FnExactRunOrders: for all arguments RunOrders of the program returns what the reference returns, leaves its arguments as they are, and hands back memory of its own. No condition. -/
import Derived.Test.YtkkdmegmdcmeaaaAhERunOrders1
set_option linter.all false
namespace Go.Ah.A
open Go Go.Ah Go.Proofs
set_option linter.unusedSimpArgs false
variable {H : AHeap} {Kk : Value → AHeap → Prop}
theorem take_succ_nth {α : Type} (xs : List α) (i : Nat) (d : α) (h : i < xs.length) : xs.take (i + 1) = xs.take i ++ [nth xs i d] := by
  rw [List.take_succ_eq_append_getElem h]; simp [nth, List.getD_eq_getElem?_getD, h]
set_option maxRecDepth 8000 in
theorem ownYard_c {v : Value} {vs : List Value} {xss : List (List Int)} (h : IntsS H v vs xss) (hs0 : Small xss) (hk : ∀ v' vs' H', AKeep H H' → OwnSS H.size H' v' vs' xss → Kk (.agg #[v']) H') : callA Try.prog 77 #[.agg #[v]] H Kk := by
  have hb := h.lt
  refine call_go (fn := Try.f77) (rs := [.cell 2 35]) [] (by kernel_rfl) rfl rfl follows (by kernel_rfl) ?_
  simp only [go_sem, seval, push_p, pushes_p, size_p, get_p, get_p0, set_p, set_p0, intss_len h]
  have g0 := h.keep (keep_p (l := [.rw 1 [v], .rw 1 [.slice none 0 0], .rw 1 [], .rw 1 [.slice (some ⟨H.size + 2, 0, none⟩) 0 0]]))
  refine loopF [5, 11, 12, 13, 14, 15, 16, 17, 18, 19, 20, 21, 22] (by kernel_rfl) (I := fun n σ G => ∃ i sv us, n = xss.length - i ∧ σ 11 = .int .i64 (i : Nat) ∧ i ≤ xss.length ∧ AKeep H G ∧ H.size + 3 < G.size ∧ G.get H.size = .rw 1 [v] ∧ G.get (H.size + 1) = .rw 1 [.slice none 0 0] ∧ G.get (H.size + 3) = .rw 1 [sv] ∧ OwnSS (H.size + 2) G sv us (xss.take i) ∧ idOf sv ≠ some (H.size + 3) ∧ (∀ j, j < i → idOf (nth us j undef) ≠ some (H.size + 3))) _ ⟨0, .slice (some ⟨H.size + 2, 0, none⟩) 0 0, [], rfl, ?s11, by omega, keep_p, by rw [size_p]; simp, by rw [get_p0]; rfl, by rw [get_p]; rfl, by rw [get_p]; rfl, ⟨.inr ⟨by unfold big; simp, H.size + 2, 0, rfl, by omega, by rw [size_p]; simp, by rw [get_p]; rfl, by simp, rfl, .inl rfl⟩, by simp, fun i hi => by simp at hi, fun i id hi => by simp at hi, fun i j id hi => by simp at hi⟩, by intro e; simp [idOf] at e, fun j hj => by omega⟩ ?_

  case s11 => first | (simp only [go_sem, seval]; done) | (simp only [go_sem, seval]; rfl) | (simp only [go_sem, seval, *]; done)
  rintro _ σ1 _ ⟨i, sv, us, rfl, s11, hi, kG, hsz, e0, e1, e3, ho, hn1, hn2⟩ hs R ih
  rename_i G
  have g := h.keep kG
  simp only [go_sem, seval, s11, hs]
  refine fork (fun hlt => ?_) (fun hlt => ?_)
  · have hlt : i < xss.length := (dec_lt hlt).1 rfl
    simp only [go_sem, seval, hs, s11, intss_index g, intss_load g, hlt, e3]
    refine clone_c (g.2.2 i hlt) (hs0.2 i hlt) fun u G1 k1 hu => ?_
    obtain ⟨a, m, c, rfl⟩ := hu.row.slice
    have hl6 := hs0.1
    have htl : (xss.take i).length = i := by simp; omega
    simp only [go_sem, seval]
    refine ⟨callCond_keep k1, ownSS_push ho (k1.trans (AKeep.push _ _)) (by omega) (hu.keep (AKeep.push _ _)) rfl (by rw [htl]; omega) (by rw [htl]; unfold big; omega) fun v' vs' G' ho' hs' hf hid hn => ?_⟩
    rw [size_push] at hs'
    have := k1.size
    have old : ∀ id, id < G.size → idOf sv ≠ some id → G'.get id = G.get id := fun id h1 h2 => by
      rw [hf id (by rw [size_push]; omega) h2, get_push_lt _ _ _ (by omega), k1.get id h1]
    have e3' : G'.get (H.size + 3) = .rw 1 [sv] := by rw [old _ (by omega) hn1, e3]
    obtain ⟨a', m', c', rfl⟩ := ho'.top.row.slice
    simp only [go_sem, seval, e3', hs, s11, wrap_succ (Nat.lt_of_le_of_lt hlt hb)]
    have nv : idOf (.slice a' m' c') ≠ some (H.size + 3) := by rw [hid, size_push]; simp; omega
    have nr : ∀ j, j < i + 1 → idOf (nth vs' j undef) ≠ some (H.size + 3) := fun j hj e => by
      rw [htl] at hn
      rcases hn j hj _ e with h1 | h1
      · exact hn2 j h1.1 h1.2
      · omega
    rw [← take_succ_nth _ _ _ hlt] at ho'
    have ab := fun id => ho.top.above id
    refine ⟨callCond_bar (by kernel_rfl), ?_⟩
    refine ih _ (by omega) _ _ ⟨i + 1, _, vs', rfl, by simp only [go_sem, seval], by omega, ?_, by rw [size_set]; omega, ?_, ?_, by rw [get_set_same _ _ _ (by omega)], ho'.setN nv (fun j hj => nr j (by simp at hj; omega)), nv, nr⟩
    · refine AKeep.set ⟨by have := kG.size; omega, fun id hid => ?_⟩ (by omega)
      rw [old id (by have := kG.size; omega) (fun e => by have := ab _ e; omega), kG.get id hid]
    · rw [get_set_ne _ _ _ _ (by omega), old _ (by omega) (fun e => by have := ab _ e; omega), e0]
    · rw [get_set_ne _ _ _ _ (by omega), old _ (by omega) (fun e => by have := ab _ e; omega), e1]
  · have hlt : ¬ i < xss.length := by intro h; have := (dec_lt hlt).2 h; cases this
    obtain rfl : i = xss.length := by omega
    obtain ⟨a, m, c, rfl⟩ := ho.top.row.slice
    have b3 : H.size + 1 < G.size := by omega
    simp only [go_sem, seval, hs, e3, e1, get_set_same _ _ _ b3]
    rw [List.take_of_length_le (Nat.le_refl _)] at ho
    exact hk _ us _ (AKeep.set (k := H.size + 1) kG (by omega)) ((ho.set (by omega)).le (by omega))
end Go.Ah.A


namespace Go.Ah.A
open Go Go.Ah Go.Proofs
set_option linter.unusedSimpArgs false
variable {H : AHeap} {Kk : Value → AHeap → Prop}
set_option maxRecDepth 8000 in
theorem ownBay_c {v : Value} {q : Int} {vs : List Value} {xss : List (List Int)} (h : IntsS H v vs xss) (hs0 : Small xss) (hk : ∀ v' vs' H', AKeep H H' → OwnSS H.size H' v' vs' xss → Kk (.agg #[.int .i64 q, v']) H') : callA Try.prog 78 #[.agg #[.int .i64 q, v]] H Kk := by
  have hb := h.lt
  refine call_go (fn := Try.f78) (rs := [.cell 2 36]) [] (by kernel_rfl) rfl rfl follows (by kernel_rfl) ?_
  simp only [go_sem, seval, push_p, pushes_p, size_p, get_p, get_p0, set_p, set_p0, intss_len h]
  have g0 := h.keep (keep_p (l := [.rw 2 [.int .i64 q, v], .rw 2 [.int .i64 0, .slice none 0 0], .rw 1 [], .rw 2 [.int .i64 q, .slice (some ⟨H.size + 2, 0, none⟩) 0 0]]))
  refine loopF [5, 13, 14, 15, 16, 17, 18, 19, 20, 21, 22, 23, 24] (by kernel_rfl) (I := fun n σ G => ∃ i sv us, n = xss.length - i ∧ σ 13 = .int .i64 (i : Nat) ∧ i ≤ xss.length ∧ AKeep H G ∧ H.size + 3 < G.size ∧ G.get H.size = .rw 2 [.int .i64 q, v] ∧ G.get (H.size + 1) = .rw 2 [.int .i64 0, .slice none 0 0] ∧ G.get (H.size + 3) = .rw 2 [.int .i64 q, sv] ∧ OwnSS (H.size + 2) G sv us (xss.take i) ∧ idOf sv ≠ some (H.size + 3) ∧ (∀ j, j < i → idOf (nth us j undef) ≠ some (H.size + 3))) _ ⟨0, .slice (some ⟨H.size + 2, 0, none⟩) 0 0, [], rfl, ?s13, by omega, keep_p, by rw [size_p]; simp, by rw [get_p0]; rfl, by rw [get_p]; rfl, by rw [get_p]; rfl, ⟨.inr ⟨by unfold big; simp, H.size + 2, 0, rfl, by omega, by rw [size_p]; simp, by rw [get_p]; rfl, by simp, rfl, .inl rfl⟩, by simp, fun i hi => by simp at hi, fun i id hi => by simp at hi, fun i j id hi => by simp at hi⟩, by intro e; simp [idOf] at e, fun j hj => by omega⟩ ?_

  case s13 => first | (simp only [go_sem, seval]; done) | (simp only [go_sem, seval]; rfl) | (simp only [go_sem, seval, *]; done)
  rintro _ σ1 _ ⟨i, sv, us, rfl, s13, hi, kG, hsz, e0, e1, e3, ho, hn1, hn2⟩ hs R ih
  rename_i G
  have g := h.keep kG
  simp only [go_sem, seval, s13, hs]
  refine fork (fun hlt => ?_) (fun hlt => ?_)
  · have hlt : i < xss.length := (dec_lt hlt).1 rfl
    simp only [go_sem, seval, hs, s13, intss_index g, intss_load g, hlt, e3]
    refine clone_c (g.2.2 i hlt) (hs0.2 i hlt) fun u G1 k1 hu => ?_
    obtain ⟨a, m, c, rfl⟩ := hu.row.slice
    have hl6 := hs0.1
    have htl : (xss.take i).length = i := by simp; omega
    simp only [go_sem, seval]
    refine ⟨callCond_keep k1, ownSS_push ho (k1.trans (AKeep.push _ _)) (by omega) (hu.keep (AKeep.push _ _)) rfl (by rw [htl]; omega) (by rw [htl]; unfold big; omega) fun v' vs' G' ho' hs' hf hid hn => ?_⟩
    rw [size_push] at hs'
    have := k1.size
    have old : ∀ id, id < G.size → idOf sv ≠ some id → G'.get id = G.get id := fun id h1 h2 => by
      rw [hf id (by rw [size_push]; omega) h2, get_push_lt _ _ _ (by omega), k1.get id h1]
    have e3' : G'.get (H.size + 3) = .rw 2 [.int .i64 q, sv] := by rw [old _ (by omega) hn1, e3]
    obtain ⟨a', m', c', rfl⟩ := ho'.top.row.slice
    simp only [go_sem, seval, e3', hs, s13, wrap_succ (Nat.lt_of_le_of_lt hlt hb)]
    have nv : idOf (.slice a' m' c') ≠ some (H.size + 3) := by rw [hid, size_push]; simp; omega
    have nr : ∀ j, j < i + 1 → idOf (nth vs' j undef) ≠ some (H.size + 3) := fun j hj e => by
      rw [htl] at hn
      rcases hn j hj _ e with h1 | h1
      · exact hn2 j h1.1 h1.2
      · omega
    rw [← take_succ_nth _ _ _ hlt] at ho'
    have ab := fun id => ho.top.above id
    refine ⟨callCond_bar (by kernel_rfl), ?_⟩
    refine ih _ (by omega) _ _ ⟨i + 1, _, vs', rfl, by simp only [go_sem, seval], by omega, ?_, by rw [size_set]; omega, ?_, ?_, by rw [get_set_same _ _ _ (by omega)], ho'.setN nv (fun j hj => nr j (by simp at hj; omega)), nv, nr⟩
    · refine AKeep.set ⟨by have := kG.size; omega, fun id hid => ?_⟩ (by omega)
      rw [old id (by have := kG.size; omega) (fun e => by have := ab _ e; omega), kG.get id hid]
    · rw [get_set_ne _ _ _ _ (by omega), old _ (by omega) (fun e => by have := ab _ e; omega), e0]
    · rw [get_set_ne _ _ _ _ (by omega), old _ (by omega) (fun e => by have := ab _ e; omega), e1]
  · have hlt : ¬ i < xss.length := by intro h; have := (dec_lt hlt).2 h; cases this
    obtain rfl : i = xss.length := by omega
    obtain ⟨a, m, c, rfl⟩ := ho.top.row.slice
    have b3 : H.size + 1 < G.size := by omega
    simp only [go_sem, seval, hs, e3, e1, get_set_same _ _ _ b3]
    rw [List.take_of_length_le (Nat.le_refl _)] at ho
    exact hk _ us _ (AKeep.set (k := H.size + 1) kG (by omega)) ((ho.set (by omega)).le (by omega))
set_option maxRecDepth 8000 in
theorem l5Own_c {v : Value} {vs : List Value} {xss : List (List Int)} (h : IntsS H v vs xss) (hs0 : Small xss) (hk : ∀ v' vs' H', AKeep H H' → OwnSS H.size H' v' vs' xss → Kk (.agg #[v']) H') : callA Try.prog 75 #[.agg #[v]] H Kk := by
  have hb := h.lt
  refine call_go (fn := Try.f75) (rs := [.cell 2 35]) [] (by kernel_rfl) rfl rfl follows (by kernel_rfl) ?_
  simp only [go_sem, seval, push_p, pushes_p, size_p, get_p, get_p0, set_p, set_p0, intss_len h]
  have g0 := h.keep (keep_p (l := [.rw 1 [v], .rw 1 [.slice none 0 0], .rw 1 [.slice none 0 0]]))
  refine loopF [4, 6, 7, 8, 9, 10, 11, 12, 13, 14, 15, 16, 17, 18, 19, 20, 21, 22, 23] (by kernel_rfl) (I := fun n σ G => ∃ i sv us, n = xss.length - i ∧ σ 4 = .int .i64 (i : Nat) ∧ i ≤ xss.length ∧ AKeep H G ∧ H.size + 2 < G.size ∧ G.get H.size = .rw 1 [v] ∧ G.get (H.size + 1) = .rw 1 [.slice none 0 0] ∧ G.get (H.size + 2) = .rw 1 [sv] ∧ OwnSS (H.size + 3) G sv us (xss.take i) ∧ idOf sv ≠ some (H.size + 2) ∧ (∀ j, j < i → idOf (nth us j undef) ≠ some (H.size + 2))) _ ⟨0, .slice none 0 0, [], rfl, ?s4, by omega, keep_p, by rw [size_p]; simp, by rw [get_p0]; rfl, by rw [get_p]; rfl, by rw [get_p]; rfl, ⟨.inl ⟨rfl, rfl, rfl⟩, by simp, fun i hi => by simp at hi, fun i id hi => by simp at hi, fun i j id hi => by simp at hi⟩, by intro e; simp [idOf] at e, fun j hj => by omega⟩ ?_

  case s4 => first | (simp only [go_sem, seval]; done) | (simp only [go_sem, seval]; rfl) | (simp only [go_sem, seval, *]; done)
  rintro _ σ1 _ ⟨i, sv, us, rfl, s4, hi, kG, hsz, e0, e1, e3, ho, hn1, hn2⟩ hs R ih
  rename_i G
  have g := h.keep kG
  simp only [go_sem, seval, s4, hs, e0, intss_len h]
  refine fork (fun hlt => ?_) (fun hlt => ?_)
  · have hlt : i < xss.length := (dec_lt hlt).1 rfl
    simp only [go_sem, seval, hs, s4, e0, intss_index g, intss_load g, hlt, e3]
    refine l1Own_c (g.2.2 i hlt) (hs0.2 i hlt) fun u G1 k1 hu0 => ?_
    have hu := OwnN.of hu0
    obtain ⟨a, m, c, rfl⟩ := hu.row.slice
    have hl6 := hs0.1
    have htl : (xss.take i).length = i := by simp; omega
    simp only [go_sem, seval]
    refine ⟨callCond_keep k1, ownSS_push ho (k1.trans (AKeep.push _ _)) (by omega) (hu.keep (AKeep.push _ _)) rfl (by rw [htl]; omega) (by rw [htl]; unfold big; omega) fun v' vs' G' ho' hs' hf hid hn => ?_⟩
    rw [size_push] at hs'
    have := k1.size
    have old : ∀ id, id < G.size → idOf sv ≠ some id → G'.get id = G.get id := fun id h1 h2 => by
      rw [hf id (by rw [size_push]; omega) h2, get_push_lt _ _ _ (by omega), k1.get id h1]
    have e3' : G'.get (H.size + 2) = .rw 1 [sv] := by rw [old _ (by omega) hn1, e3]
    obtain ⟨a', m', c', rfl⟩ := ho'.top.row.slice
    simp only [go_sem, seval, e3', hs, s4, wrap_succ (Nat.lt_of_le_of_lt hlt hb)]
    have nv : idOf (.slice a' m' c') ≠ some (H.size + 2) := by rw [hid, size_push]; simp; omega
    have nr : ∀ j, j < i + 1 → idOf (nth vs' j undef) ≠ some (H.size + 2) := fun j hj e => by
      rw [htl] at hn
      rcases hn j hj _ e with h1 | h1
      · exact hn2 j h1.1 h1.2
      · omega
    rw [← take_succ_nth _ _ _ hlt] at ho'
    have ab := fun id => ho.top.above id
    refine ⟨callCond_bar (by kernel_rfl), ?_⟩
    refine ih _ (by omega) _ _ ⟨i + 1, _, vs', rfl, by simp only [go_sem, seval], by omega, ?_, by rw [size_set]; omega, ?_, ?_, by rw [get_set_same _ _ _ (by omega)], ho'.setN nv (fun j hj => nr j (by simp at hj; omega)), nv, nr⟩
    · refine AKeep.set ⟨by have := kG.size; omega, fun id hid => ?_⟩ (by omega)
      rw [old id (by have := kG.size; omega) (fun e => by have := ab _ e; omega), kG.get id hid]
    · rw [get_set_ne _ _ _ _ (by omega), old _ (by omega) (fun e => by have := ab _ e; omega), e0]
    · rw [get_set_ne _ _ _ _ (by omega), old _ (by omega) (fun e => by have := ab _ e; omega), e1]
  · have hlt : ¬ i < xss.length := by intro h; have := (dec_lt hlt).2 h; cases this
    obtain rfl : i = xss.length := by omega
    obtain ⟨a, m, c, rfl⟩ := ho.top.row.slice
    have b3 : H.size + 1 < G.size := by omega
    simp only [go_sem, seval, hs, e3, e1, get_set_same _ _ _ b3]
    rw [List.take_of_length_le (Nat.le_refl _)] at ho
    exact hk _ us _ (AKeep.set (k := H.size + 1) kG (by omega)) ((ho.set (by omega)).le (by omega))
set_option maxRecDepth 8000 in
theorem l9Own_c {v : Value} {q : Int} {vs : List Value} {xss : List (List Int)} (h : IntsS H v vs xss) (hs0 : Small xss) (hk : ∀ v' vs' H', AKeep H H' → OwnSS H.size H' v' vs' xss → Kk (.agg #[.int .i64 q, v']) H') : callA Try.prog 76 #[.agg #[.int .i64 q, v]] H Kk := by
  have hb := h.lt
  refine call_go (fn := Try.f76) (rs := [.cell 2 36]) [] (by kernel_rfl) rfl rfl follows (by kernel_rfl) ?_
  simp only [go_sem, seval, push_p, pushes_p, size_p, get_p, get_p0, set_p, set_p0, intss_len h]
  have g0 := h.keep (keep_p (l := [.rw 2 [.int .i64 q, v], .rw 2 [.int .i64 0, .slice none 0 0], .rw 2 [.int .i64 q, .slice none 0 0]]))
  refine loopF [4, 8, 9, 10, 11, 12, 13, 14, 15, 16, 17, 18, 19, 20, 21, 22, 23, 24, 25] (by kernel_rfl) (I := fun n σ G => ∃ i sv us, n = xss.length - i ∧ σ 4 = .int .i64 (i : Nat) ∧ i ≤ xss.length ∧ AKeep H G ∧ H.size + 2 < G.size ∧ G.get H.size = .rw 2 [.int .i64 q, v] ∧ G.get (H.size + 1) = .rw 2 [.int .i64 0, .slice none 0 0] ∧ G.get (H.size + 2) = .rw 2 [.int .i64 q, sv] ∧ OwnSS (H.size + 3) G sv us (xss.take i) ∧ idOf sv ≠ some (H.size + 2) ∧ (∀ j, j < i → idOf (nth us j undef) ≠ some (H.size + 2))) _ ⟨0, .slice none 0 0, [], rfl, ?s4, by omega, keep_p, by rw [size_p]; simp, by rw [get_p0]; rfl, by rw [get_p]; rfl, by rw [get_p]; rfl, ⟨.inl ⟨rfl, rfl, rfl⟩, by simp, fun i hi => by simp at hi, fun i id hi => by simp at hi, fun i j id hi => by simp at hi⟩, by intro e; simp [idOf] at e, fun j hj => by omega⟩ ?_

  case s4 => first | (simp only [go_sem, seval]; done) | (simp only [go_sem, seval]; rfl) | (simp only [go_sem, seval, *]; done)
  rintro _ σ1 _ ⟨i, sv, us, rfl, s4, hi, kG, hsz, e0, e1, e3, ho, hn1, hn2⟩ hs R ih
  rename_i G
  have g := h.keep kG
  simp only [go_sem, seval, s4, hs, e0, intss_len h]
  refine fork (fun hlt => ?_) (fun hlt => ?_)
  · have hlt : i < xss.length := (dec_lt hlt).1 rfl
    simp only [go_sem, seval, hs, s4, e0, intss_index g, intss_load g, hlt, e3]
    refine l1Own_c (g.2.2 i hlt) (hs0.2 i hlt) fun u G1 k1 hu0 => ?_
    have hu := OwnN.of hu0
    obtain ⟨a, m, c, rfl⟩ := hu.row.slice
    have hl6 := hs0.1
    have htl : (xss.take i).length = i := by simp; omega
    simp only [go_sem, seval]
    refine ⟨callCond_keep k1, ownSS_push ho (k1.trans (AKeep.push _ _)) (by omega) (hu.keep (AKeep.push _ _)) rfl (by rw [htl]; omega) (by rw [htl]; unfold big; omega) fun v' vs' G' ho' hs' hf hid hn => ?_⟩
    rw [size_push] at hs'
    have := k1.size
    have old : ∀ id, id < G.size → idOf sv ≠ some id → G'.get id = G.get id := fun id h1 h2 => by
      rw [hf id (by rw [size_push]; omega) h2, get_push_lt _ _ _ (by omega), k1.get id h1]
    have e3' : G'.get (H.size + 2) = .rw 2 [.int .i64 q, sv] := by rw [old _ (by omega) hn1, e3]
    obtain ⟨a', m', c', rfl⟩ := ho'.top.row.slice
    simp only [go_sem, seval, e3', hs, s4, wrap_succ (Nat.lt_of_le_of_lt hlt hb)]
    have nv : idOf (.slice a' m' c') ≠ some (H.size + 2) := by rw [hid, size_push]; simp; omega
    have nr : ∀ j, j < i + 1 → idOf (nth vs' j undef) ≠ some (H.size + 2) := fun j hj e => by
      rw [htl] at hn
      rcases hn j hj _ e with h1 | h1
      · exact hn2 j h1.1 h1.2
      · omega
    rw [← take_succ_nth _ _ _ hlt] at ho'
    have ab := fun id => ho.top.above id
    refine ⟨callCond_bar (by kernel_rfl), ?_⟩
    refine ih _ (by omega) _ _ ⟨i + 1, _, vs', rfl, by simp only [go_sem, seval], by omega, ?_, by rw [size_set]; omega, ?_, ?_, by rw [get_set_same _ _ _ (by omega)], ho'.setN nv (fun j hj => nr j (by simp at hj; omega)), nv, nr⟩
    · refine AKeep.set ⟨by have := kG.size; omega, fun id hid => ?_⟩ (by omega)
      rw [old id (by have := kG.size; omega) (fun e => by have := ab _ e; omega), kG.get id hid]
    · rw [get_set_ne _ _ _ _ (by omega), old _ (by omega) (fun e => by have := ab _ e; omega), e0]
    · rw [get_set_ne _ _ _ _ (by omega), old _ (by omega) (fun e => by have := ab _ e; omega), e1]
  · have hlt : ¬ i < xss.length := by intro h; have := (dec_lt hlt).2 h; cases this
    obtain rfl : i = xss.length := by omega
    obtain ⟨a, m, c, rfl⟩ := ho.top.row.slice
    have b3 : H.size + 1 < G.size := by omega
    simp only [go_sem, seval, hs, e3, e1, get_set_same _ _ _ b3]
    rw [List.take_of_length_le (Nat.le_refl _)] at ho
    exact hk _ us _ (AKeep.set (k := H.size + 1) kG (by omega)) ((ho.set (by omega)).le (by omega))
end Go.Ah.A


namespace Go.Ah.A
open Go Go.Ah Go.Proofs
set_option linter.unusedSimpArgs false
variable {H : AHeap} {Kk : Value → AHeap → Prop}
def Off (v : Value) (vs : List Value) (u : Value) (us : List Value) : Prop := ∀ id, InF v vs id → ¬ InF u us id
set_option maxRecDepth 8000 in
theorem ownTerminal_c {v u : Value} {vs us : List Value} {xss yss : List (List Int)} {q : Int} (h : IntsS H v vs xss) (g : IntsS H u us yss) (hs : Small xss) (hs' : Small yss)
    (hk : ∀ v' vs' u' us' H', AKeep H H' → HSS H.size H' v' vs' xss → HSS H.size H' u' us' yss → Off v' vs' u' us' → Kk (.agg #[v', .int .i64 q, u']) H') : callA Try.prog 57 #[.agg #[v, .int .i64 q, u]] H Kk := by
  refine call_go (fn := Try.f57) (rs := [.cell 2 38]) [] (by kernel_rfl) rfl rfl follows (by kernel_rfl) ?_
  simp only [go_sem, seval, push_p, pushes_p, size_p, get_p, get_p0, set_p, set_p0]
  have k0 : AKeep H (pushes H [.rw 3 [v, .int .i64 q, u], .rw 3 [.slice none 0 0, .int .i64 0, .slice none 0 0]]) := keep_p
  refine ownYard_c (h.keep k0) hs fun v' vs' H1 k1 h1 => ?_
  simp only [go_sem, seval]
  have e0 : H1.get H.size = .rw 3 [v, .int .i64 q, u] := by rw [k1.get _ (by rw [size_p]; simp), get_p0]; rfl
  refine ⟨callCond_keep k1, ?_⟩
  simp only [go_sem, seval, e0]
  refine ownBay_c ((g.keep k0).keep k1) hs' fun u' us' H2 k2 h2 => ?_
  simp only [go_sem, seval]
  refine ⟨callCond_keep k2, ?_⟩
  have hz1 := k1.size
  have hz2 := k2.size
  simp only [size_p, List.length_cons, List.length_nil] at hz1 h1
  have e1 : H2.get (H.size + 1) = .rw 3 [.slice none 0 0, .int .i64 0, .slice none 0 0] := by rw [k2.get _ (by omega), k1.get _ (by rw [size_p]; simp), get_p]; rfl
  obtain ⟨a, m, c, rfl⟩ := h1.top.row.slice
  obtain ⟨a', m', c', rfl⟩ := h2.top.row.slice
  have b1 : H.size + 1 < H2.size := by omega
  simp only [go_sem, seval, get_set_same, get_set_ne, Nat.add_left_cancel_iff, e1, b1]
  have s1 := HSS.of h1
  have s2 := HSS.of h2
  refine hk _ vs' _ us' _ (((k0.trans k1).trans k2).set (by omega)) (((s1.keep k2).keepF (by rw [size_set]; omega) fun id hi => get_set_ne _ _ _ _ ?_).le (by omega)) ((s2.keepF (by rw [size_set]; omega) fun id hi => get_set_ne _ _ _ _ ?_).le (by omega)) fun id hi hj => ?_
  · have := s1.above hi; omega
  · have := s2.above hi; omega
  · have := s1.low hi; have := s2.above hj; omega
set_option maxRecDepth 8000 in
theorem l24Own_c {v u : Value} {vs us : List Value} {xss yss : List (List Int)} {q : Int} (h : IntsS H v vs xss) (g : IntsS H u us yss) (hs : Small xss) (hs' : Small yss)
    (hk : ∀ v' vs' u' us' H', AKeep H H' → HSS H.size H' v' vs' xss → HSS H.size H' u' us' yss → Off v' vs' u' us' → Kk (.agg #[v', .int .i64 q, u']) H') : callA Try.prog 56 #[.agg #[v, .int .i64 q, u]] H Kk := by
  refine call_go (fn := Try.f56) (rs := [.cell 2 38]) [] (by kernel_rfl) rfl rfl follows (by kernel_rfl) ?_
  simp only [go_sem, seval, push_p, pushes_p, size_p, get_p, get_p0, set_p, set_p0]
  have k0 : AKeep H (pushes H [.rw 3 [v, .int .i64 q, u], .rw 3 [.slice none 0 0, .int .i64 0, .slice none 0 0]]) := keep_p
  refine l5Own_c (h.keep k0) hs fun v' vs' H1 k1 h1 => ?_
  simp only [go_sem, seval]
  have e0 : H1.get H.size = .rw 3 [v, .int .i64 q, u] := by rw [k1.get _ (by rw [size_p]; simp), get_p0]; rfl
  refine ⟨callCond_keep k1, ?_⟩
  simp only [go_sem, seval, e0]
  refine l9Own_c ((g.keep k0).keep k1) hs' fun u' us' H2 k2 h2 => ?_
  simp only [go_sem, seval]
  refine ⟨callCond_keep k2, ?_⟩
  have hz1 := k1.size
  have hz2 := k2.size
  simp only [size_p, List.length_cons, List.length_nil] at hz1 h1
  have e1 : H2.get (H.size + 1) = .rw 3 [.slice none 0 0, .int .i64 0, .slice none 0 0] := by rw [k2.get _ (by omega), k1.get _ (by rw [size_p]; simp), get_p]; rfl
  obtain ⟨a, m, c, rfl⟩ := h1.top.row.slice
  obtain ⟨a', m', c', rfl⟩ := h2.top.row.slice
  have b1 : H.size + 1 < H2.size := by omega
  simp only [go_sem, seval, get_set_same, get_set_ne, Nat.add_left_cancel_iff, e1, b1]
  have s1 := HSS.of h1
  have s2 := HSS.of h2
  refine hk _ vs' _ us' _ (((k0.trans k1).trans k2).set (by omega)) (((s1.keep k2).keepF (by rw [size_set]; omega) fun id hi => get_set_ne _ _ _ _ ?_).le (by omega)) ((s2.keepF (by rw [size_set]; omega) fun id hi => get_set_ne _ _ _ _ ?_).le (by omega)) fun id hi hj => ?_
  · have := s1.above hi; omega
  · have := s2.above hi; omega
  · have := s1.low hi; have := s2.above hj; omega
end Go.Ah.A


namespace Go.Ah.A
open Go Go.Ah Go.Proofs
set_option linter.unusedSimpArgs false
variable {H : AHeap} {Kk : Value → AHeap → Prop}
theorem tops_spec {b : Int} : ∀ (xss : List (List Int)) (i : Nat), tops b xss i < 0 ∨ ∃ a : Nat, tops b xss i = ((i + a : Nat) : Int) ∧ a < xss.length ∧ onTop b (nth xss a []) = true
  | [], i => .inl (by simp [tops])
  | s :: r, i => by
    unfold tops
    split
    · rename_i h; exact .inr ⟨0, rfl, by simp, h⟩
    · rcases tops_spec r (i + 1) with h | ⟨a, h1, h2, h3⟩
      · exact .inl h
      · exact .inr ⟨a + 1, by rw [h1]; congr 1; omega, by simp; omega, h3⟩
structure MK where
  y : List (List Int)
  q : Int
  s : List (List Int)
  a : Int
  ok : Bool
def MK.no : MK := ⟨[], 0, [], 0, false⟩
def cutAt (y : List (List Int)) (a : Nat) : List (List Int) := y.set a ((nth y a []).take ((nth y a []).length - 1))
def putAt (y : List (List Int)) (t : Nat) (b : Int) : List (List Int) := y.set t (nth y t [] ++ [b])
def mkFin (y : List (List Int)) (q : Int) (s : List (List Int)) (a : Int) : MK := if validTerminal y q s = true then ⟨y, q, s, a, true⟩ else MK.no
def mkP (y : List (List Int)) (q : Int) (s : List (List Int)) (k b t : Int) : MK :=
  if k = 1 then (if tops b y 0 < 0 ∨ ¬ (0 ≤ t ∧ t ≤ y.length - 1) ∨ t = tops b y 0 then MK.no else mkFin (putAt (cutAt y (tops b y 0).toNat) t.toNat b) q s (tops b y 0))
  else if k = 2 then (if tops b y 0 < 0 ∨ ¬ (0 ≤ t ∧ t ≤ s.length - 1) then MK.no else mkFin (cutAt y (tops b y 0).toNat) q (putAt s t.toNat b) (tops b y 0))
  else if k = 3 then (if tops b s 0 < 0 ∨ ¬ (0 ≤ t ∧ t ≤ y.length - 1) then MK.no else mkFin (putAt y t.toNat b) q (cutAt s (tops b s 0).toNat) (tops b s 0))
  else MK.no
set_option maxRecDepth 8000 in
set_option maxHeartbeats 4000000 in
theorem makeOrder_c {v u : Value} {vs us : List Value} {xss yss : List (List Int)} {q k b t : Int} (h : IntsS H v vs xss) (g : IntsS H u us yss) (hs : Small xss) (hs' : Small yss)
    (hk : ∀ v' vs' u' us' H', AKeep H H' → HSS H.size H' v' vs' (mkP xss q yss k b t).y → HSS H.size H' u' us' (mkP xss q yss k b t).s → Off v' vs' u' us' → Kk (.tuple #[.agg #[v', .int .i64 (mkP xss q yss k b t).q, u'], .int .i64 (mkP xss q yss k b t).a, .bool (mkP xss q yss k b t).ok]) H') : callA Try.prog 40 #[.agg #[v, .int .i64 q, u], .agg #[.int .i64 k, .int .i64 b, .int .i64 t]] H Kk := by
  refine call_go (fn := Try.f40) (rs := [.cell 4 38, .tmp 5, .tmp 6]) [14] (by kernel_rfl) rfl rfl follows (by kernel_rfl) ?_
  simp only [go_sem, seval, push_p, pushes_p, size_p, get_p, get_p0, set_p, set_p0]
  have k0 : AKeep H (pushes H [.rw 3 [v, .int .i64 q, u], .rw 3 [.int .i64 k, .int .i64 b, .int .i64 t], .rw 3 [.slice none 0 0, .int .i64 0, .slice none 0 0]]) := keep_p
  refine ownTerminal_c (h.keep k0) (g.keep k0) hs hs' fun v' vs' u' us' H1 k1 h1 g1 o1 => ?_
  have hz1 := k1.size
  simp only [size_p, List.length_cons, List.length_nil] at hz1 h1 g1
  have e1 : H1.get (H.size + 1) = .rw 3 [.int .i64 k, .int .i64 b, .int .i64 t] := by rw [k1.get _ (by rw [size_p]; simp), get_p]; rfl
  have e2 : H1.get (H.size + 2) = .rw 3 [.slice none 0 0, .int .i64 0, .slice none 0 0] := by rw [k1.get _ (by rw [size_p]; simp), get_p]; rfl
  have n1 : H.size + 1 ≠ H1.size := by omega
  obtain ⟨a, m, c, rfl⟩ := h1.top.slice
  obtain ⟨a', m', c', rfl⟩ := g1.top.slice
  simp only [go_sem, seval, get_set_same, get_set_ne, Nat.add_left_cancel_iff, e1, get_push_ne _ _ _ n1, push_set]
  have kG : AKeep H (H1.push (.rw 3 [.slice a m c, .int .i64 q, .slice a' m' c'])) := (k0.trans k1).trans (AKeep.push _ _)
  have h2 := h1.keep (AKeep.push _ (.rw 3 [.slice a m c, .int .i64 q, .slice a' m' c']))
  have g2 := g1.keep (AKeep.push _ (.rw 3 [.slice a m c, .int .i64 q, .slice a' m' c']))
  have f1 : (H1.push (.rw 3 [.slice a m c, .int .i64 q, .slice a' m' c'])).get (H.size + 1) = .rw 3 [.int .i64 k, .int .i64 b, .int .i64 t] := by rw [get_push_lt _ _ _ (by omega), e1]
  have f2 : (H1.push (.rw 3 [.slice a m c, .int .i64 q, .slice a' m' c'])).get (H.size + 2) = .rw 3 [.slice none 0 0, .int .i64 0, .slice none 0 0] := by rw [get_push_lt _ _ _ (by omega), e2]
  have f3 : (H1.push (.rw 3 [.slice a m c, .int .i64 q, .slice a' m' c'])).get H1.size = .rw 3 [.slice a m c, .int .i64 q, .slice a' m' c'] := get_push_same _ _
  have hzz : (H1.push (.rw 3 [.slice a m c, .int .i64 q, .slice a' m' c'])).size = H1.size + 1 := size_push _ _
  generalize hGe : H1.push (.rw 3 [.slice a m c, .int .i64 q, .slice a' m' c']) = G at *
  obtain ⟨R, hR⟩ : ∃ R, mkP xss q yss k b t = R := ⟨_, rfl⟩
  rw [hR] at hk
  have b2 : H.size + 2 < G.size := by omega
  have hfail : R = MK.no → ∀ G', AKeep H G' → Kk (.tuple #[.agg #[.slice none 0 0, .int .i64 0, .slice none 0 0], .int .i64 0, .bool false]) G' := fun e G' kG' => by
    subst e
    exact hk _ [] _ [] _ kG' hss_nil hss_nil fun id hi => absurd hi inF_nil
  by_cases hk1 : k = 1
  · subst hk1
    rw [show mkP xss q yss 1 b t = (if tops b xss 0 < 0 ∨ ¬ (0 ≤ t ∧ t ≤ xss.length - 1) ∨ t = tops b xss 0 then MK.no else mkFin (putAt (cutAt xss (tops b xss 0).toNat) t.toNat b) q yss (tops b xss 0)) by unfold mkP; rw [if_pos rfl]] at hR
    simp only [go_sem, seval]
    refine indexFunc_c h2.intss f1 ?_
    by_cases ha : tops b xss 0 < 0
    · have ha' : decide (tops b xss 0 < 0) = true := by simpa using ha
      rw [if_pos (.inl ha)] at hR
      simp only [go_sem, seval, get_set_same, get_set_ne, Nat.add_left_cancel_iff, f1, f2, b2, intss_len h2.intss, ha']
      exact hfail hR.symm _ (kG.set (by omega))
    have ha' : decide (tops b xss 0 < 0) = false := by simpa using ha
    simp only [go_sem, seval, get_set_same, get_set_ne, Nat.add_left_cancel_iff, f1, f2, b2, intss_len h2.intss, ha']
    refine within_c ?_
    have hw : IntKind.i64.wrap ((xss.length : Int) - 1) = (xss.length : Int) - 1 := wrap_id (by omega) (by have := hs.1; omega)
    rw [hw]
    by_cases hb : 0 ≤ t ∧ t ≤ xss.length - 1
    rotate_left
    · have hb' : (decide (0 ≤ t) && decide (t ≤ (xss.length : Int) - 1)) = false := by simpa using hb
      rw [if_pos (.inr (.inl hb))] at hR
      simp only [go_sem, seval, get_set_same, get_set_ne, Nat.add_left_cancel_iff, f1, f2, b2, hb']
      exact hfail hR.symm _ (kG.set (by omega))
    have hb' : (decide (0 ≤ t) && decide (t ≤ (xss.length : Int) - 1)) = true := by simpa using hb
    by_cases hc : t = tops b xss 0
    · have hc' : (t == tops b xss 0) = true := by simpa using hc
      rw [if_pos (.inr (.inr hc))] at hR
      simp only [go_sem, seval, get_set_same, get_set_ne, Nat.add_left_cancel_iff, f1, f2, b2, hb', hc']
      exact hfail hR.symm _ (kG.set (by omega))
    have hc' : (t == tops b xss 0) = false := by simpa using hc
    simp only [go_sem, seval, get_set_same, get_set_ne, Nat.add_left_cancel_iff, f1, f2, b2, hb', hc']
    rcases tops_spec (b := b) xss 0 with h3 | ⟨a0, hA, hal, htop⟩
    · exact absurd h3 ha
    rw [Nat.zero_add] at hA
    obtain ⟨t0, rfl⟩ : ∃ t0 : Nat, t = t0 := ⟨t.toNat, by omega⟩
    have htl : t0 < xss.length := by omega
    have hpos : 0 < (nth xss a0 []).length := by unfold onTop at htop; simp at htop; omega
    have hr := (h2.rows a0 hal)
    have hw2 : IntKind.i64.wrap (((nth xss a0 []).length : Int) - 1) = (((nth xss a0 []).length - 1 : Nat) : Int) := by
      rw [wrap_id (by omega) (by have := hs.2 a0 hal; omega)]; omega
    rw [hA] at hR
    simp only [go_sem, seval, get_set_same, get_set_ne, Nat.add_left_cancel_iff, hA, intss_index h2.intss, intss_load h2.intss, hal, ints_len hr.ints, hw2]
    refine hd_cut hr (by simp only [go_sem, seval]) (by omega) fun w hw3 hw4 => ?_
    simp only [go_sem, seval, intss_index h2.intss, hal]
    obtain ⟨xs1, hxs1⟩ : ∃ xs1, (nth xss a0 []).take ((nth xss a0 []).length - 1) = xs1 := ⟨_, rfl⟩
    have hl1 : xs1.length = (nth xss a0 []).length - 1 := by rw [← hxs1, List.length_take]; omega
    rw [Nat.mul_one, ← List.map_take, hxs1, ← hl1] at hw3
    refine hss_put h2 hal hw3 (Nat.le_refl _) (fun _ _ _ => rfl) (fun id e => .inl (by rw [← hw4]; exact e)) (by simp only [go_sem, seval]) fun G2 h3 hz2 hf2 hi2 => ?_
    have hlo : ∀ id, id < H.size + 3 → idOf (.slice a m c) ≠ some id := fun id hi e => by have := h2.top.above _ e; omega
    have p1 : G2.get (H.size + 1) = .rw 3 [.int .i64 1, .int .i64 b, .int .i64 t0] := by rw [hf2 _ (hlo _ (by omega)), f1]
    have htl2 : t0 < (xss.set a0 xs1).length := by rw [List.length_set]; exact htl
    have e3 : ((t0 : Int)).toNat = t0 := by omega
    simp only [go_sem, seval, get_set_same, get_set_ne, Nat.add_left_cancel_iff, p1, intss_index h3.intss, intss_load h3.intss, htl2]
    have hr2 := (h3.rows t0 htl2).keep (AKeep.push G2 (.rw 1 [.int .i64 b]))
    have hrl : (nth (xss.set a0 xs1) t0 []).length ≤ 1048576 := by
      by_cases e : a0 = t0
      · subst e; rw [nth_set_eq hal]; have := hs.2 a0 hal; omega
      · rw [nth_set_ne e]; exact hs.2 t0 htl
    have hh3 := h3.keep (AKeep.push G2 (.rw 1 [.int .i64 b]))
    refine hd_app hr2 (by rw [size_push]; omega) (by rfl) (by rfl) (by omega) (by unfold big; omega) fun w2 G4 hw5 hz4 hf4 hn4 => ?_
    refine ⟨draw2_weak (by kernel_rfl), ?_⟩
    simp only [go_sem, seval, intss_index hh3.intss, htl2]
    refine hss_put hh3 htl2 (xs := nth (xss.set a0 xs1) t0 [] ++ [b]) (by rw [List.length_append, List.map_append]; exact hw5) hz4 hf4 hn4 (by simp only [go_sem, seval]) fun G5 h5 hz5 hf5 hi5 => ?_
    simp only [go_sem, seval]
    have ids : ∀ id, id < G.size → ¬ InF (.slice a m c) vs' id → G5.get id = G.get id := fun id hi hno => by
      have hv : idOf (.slice a m c) ≠ some id := fun e => hno (.inl e)
      have hr0 : idOf (nth (vs'.set a0 w) t0 undef) ≠ some id := fun e => by
        rcases hi2 id (.inr ⟨t0, by rw [List.length_set, h2.len]; exact htl, e⟩) with h4 | h4
        · exact hno h4
        · omega
      rw [hf5 id hv, hf4 id (by rw [size_push]; omega) hr0, get_push_lt _ _ _ (by omega), hf2 id hv]
    have nlo : ∀ id, id < H.size + 3 → ¬ InF (.slice a m c) vs' id := fun id hi e => by have := h2.above e; omega
    refine ⟨floatCond_cons (l := []) (by kernel_rfl) floatOne_nil (floatCond_cons (l := [.tmp 75]) (by kernel_rfl) (floatOne_cons (fun id e => ?_) floatOne_nil) (by simp only [go_sem, seval])), ?_⟩
    · simp only [go_sem, seval] at e
      obtain rfl : H.size + 1 = id := by cases e; rfl
      refine hf4 _ (by rw [size_push]; omega) fun e => ?_
      rcases hi2 _ (.inr ⟨t0, by rw [List.length_set, h2.len]; exact htl, e⟩) with h4 | h4
      · exact nlo _ (by omega) h4
      · omega
    have p3 : G5.get H1.size = .rw 3 [.slice a m c, .int .i64 q, .slice a' m' c'] := by rw [ids _ (by omega) fun e => by have := h1.low e; omega, f3]
    have p2 : G5.get (H.size + 2) = .rw 3 [.slice none 0 0, .int .i64 0, .slice none 0 0] := by rw [ids _ (by omega) (nlo _ (by omega)), f2]
    have hz5' : G.size ≤ G5.size := by rw [size_push] at hz4; omega
    have k5 : AKeep H G5 := ⟨by have := kG.size; omega, fun id hi => by rw [ids id (by omega) (nlo id (by omega)), kG.get id hi]⟩
    have g5 : HSS (H.size + 3) G5 (.slice a' m' c') us' yss := g2.keepF hz5' fun id hi => ids id (g2.low hi) fun e => o1 id e hi
    have o5 : Off (.slice a m c) ((vs'.set a0 w).set t0 w2) (.slice a' m' c') us' := fun id hi hi' => by
      have := g2.low hi'
      rcases hi5 id hi with h4 | h4
      · rcases hi2 id h4 with h4 | h4
        · exact o1 id h4 hi'
        · omega
      · rw [size_push] at h4; omega
    simp only [go_sem, seval, p3]
    refine validTerminal_c h5.intss g5.intss fun G6 k6 => ?_
    have p2 : G6.get (H.size + 2) = .rw 3 [.slice none 0 0, .int .i64 0, .slice none 0 0] := by rw [k6.get _ (by omega), p2]
    have p3 : G6.get H1.size = .rw 3 [.slice a m c, .int .i64 q, .slice a' m' c'] := by rw [k6.get _ (by omega), p3]
    have b6 : H.size + 2 < G6.size := by have := k6.size; omega
    have hR : mkFin ((xss.set a0 xs1).set t0 (nth (xss.set a0 xs1) t0 [] ++ [b])) q yss a0 = R := by
      rw [← hR, if_neg (by omega), ← hxs1]; rfl
    by_cases hval : validTerminal ((xss.set a0 xs1).set t0 (nth (xss.set a0 xs1) t0 [] ++ [b])) q yss = true
    · simp only [go_sem, seval, get_set_same, get_set_ne, Nat.add_left_cancel_iff, hval, p3, p2, b6]
      rw [mkFin, if_pos hval] at hR
      subst hR
      refine hk _ _ _ us' _ ((k5.trans k6).set (by omega)) (((h5.keep k6).keepF (by rw [size_set]; omega) fun id hi => get_set_ne _ _ _ _ ?_).le (by omega)) (((g5.keep k6).keepF (by rw [size_set]; omega) fun id hi => get_set_ne _ _ _ _ ?_).le (by omega)) o5
      · have := h5.above hi; omega
      · have := g5.above hi; omega
    · have hval : validTerminal ((xss.set a0 xs1).set t0 (nth (xss.set a0 xs1) t0 [] ++ [b])) q yss = false := by simpa using hval
      simp only [go_sem, seval, get_set_same, get_set_ne, Nat.add_left_cancel_iff, hval, p3, p2, b6]
      rw [mkFin, if_neg (by simp [hval])] at hR
      exact hfail hR.symm _ ((k5.trans k6).set (by omega))
  have o1' : Off (.slice a' m' c') us' (.slice a m c) vs' := fun id hi hj => o1 id hj hi
  by_cases hk2 : k = 2
  · subst hk2
    rw [show mkP xss q yss 2 b t = (if tops b xss 0 < 0 ∨ ¬ (0 ≤ t ∧ t ≤ yss.length - 1) then MK.no else mkFin (cutAt xss (tops b xss 0).toNat) q (putAt yss t.toNat b) (tops b xss 0)) by unfold mkP; rw [if_neg (by omega), if_pos rfl]] at hR
    have c1 : ((2 : Int) == 1) = false := rfl
    simp only [go_sem, seval, get_set_same, get_set_ne, Nat.add_left_cancel_iff, f1, f2, f3, c1]
    refine indexFunc_c h2.intss f1 ?_
    by_cases ha : tops b xss 0 < 0
    · have ha' : decide (tops b xss 0 < 0) = true := by simpa using ha
      rw [if_pos (.inl ha)] at hR
      simp only [go_sem, seval, get_set_same, get_set_ne, Nat.add_left_cancel_iff, f1, f2, b2, ha']
      exact hfail hR.symm _ (kG.set (by omega))
    have ha' : decide (tops b xss 0 < 0) = false := by simpa using ha
    simp only [go_sem, seval, get_set_same, get_set_ne, Nat.add_left_cancel_iff, f1, f2, b2, intss_len g2.intss, ha']
    refine within_c ?_
    have hw : IntKind.i64.wrap ((yss.length : Int) - 1) = (yss.length : Int) - 1 := wrap_id (by omega) (by have := hs'.1; omega)
    rw [hw]
    by_cases hb : 0 ≤ t ∧ t ≤ yss.length - 1
    rotate_left
    · have hb' : (decide (0 ≤ t) && decide (t ≤ (yss.length : Int) - 1)) = false := by simpa using hb
      rw [if_pos (.inr hb)] at hR
      simp only [go_sem, seval, get_set_same, get_set_ne, Nat.add_left_cancel_iff, f1, f2, b2, hb']
      exact hfail hR.symm _ (kG.set (by omega))
    have hb' : (decide (0 ≤ t) && decide (t ≤ (yss.length : Int) - 1)) = true := by simpa using hb
    simp only [go_sem, seval, get_set_same, get_set_ne, Nat.add_left_cancel_iff, f1, f2, b2, hb', c1]
    rcases tops_spec (b := b) xss 0 with h3 | ⟨a0, hA, hal, htop⟩
    · exact absurd h3 ha
    rw [Nat.zero_add] at hA
    obtain ⟨t0, rfl⟩ : ∃ t0 : Nat, t = t0 := ⟨t.toNat, by omega⟩
    have htl : t0 < yss.length := by omega
    have hpos : 0 < (nth xss a0 []).length := by unfold onTop at htop; simp at htop; omega
    have hr := (h2.rows a0 hal)
    have hw2 : IntKind.i64.wrap (((nth xss a0 []).length : Int) - 1) = (((nth xss a0 []).length - 1 : Nat) : Int) := by
      rw [wrap_id (by omega) (by have := hs.2 a0 hal; omega)]; omega
    rw [hA] at hR
    simp only [go_sem, seval, get_set_same, get_set_ne, Nat.add_left_cancel_iff, hA, intss_index h2.intss, intss_load h2.intss, hal, ints_len hr.ints, hw2]
    refine hd_cut hr (by simp only [go_sem, seval]) (by omega) fun w hw3 hw4 => ?_
    simp only [go_sem, seval, intss_index h2.intss, hal]
    obtain ⟨xs1, hxs1⟩ : ∃ xs1, (nth xss a0 []).take ((nth xss a0 []).length - 1) = xs1 := ⟨_, rfl⟩
    have hl1 : xs1.length = (nth xss a0 []).length - 1 := by rw [← hxs1, List.length_take]; omega
    rw [Nat.mul_one, ← List.map_take, hxs1, ← hl1] at hw3
    refine hss_put h2 hal hw3 (Nat.le_refl _) (fun _ _ _ => rfl) (fun id e => .inl (by rw [← hw4]; exact e)) (by simp only [go_sem, seval]) fun G2 h3 hz2 hf2 hi2 => ?_
    have nfo : ∀ id, id < H.size + 3 → ¬ InF (.slice a m c) vs' id := fun id hi e => by have := h2.above e; omega
    have nto : ∀ id, id < H.size + 3 → ¬ InF (.slice a' m' c') us' id := fun id hi e => by have := g2.above e; omega
    have p1 : G2.get (H.size + 1) = .rw 3 [.int .i64 2, .int .i64 b, .int .i64 t0] := by rw [hf2 _ (fun e => nfo _ (by omega) (.inl e)), f1]
    have ht3 := g2.keepF (G' := G2) (by omega) fun id hi => hf2 id fun e => o1 id (.inl e) hi
    simp only [go_sem, seval, get_set_same, get_set_ne, Nat.add_left_cancel_iff, p1, intss_index ht3.intss, intss_load ht3.intss, htl]
    have hr2 := (ht3.rows t0 htl).keep (AKeep.push G2 (.rw 1 [.int .i64 b]))
    have hrl : (nth yss t0 []).length ≤ 1048576 := hs'.2 t0 htl
    have hl1' := hs'.1
    have hh3 := ht3.keep (AKeep.push G2 (.rw 1 [.int .i64 b]))
    refine hd_app hr2 (by rw [size_push]; omega) (by rfl) (by rfl) (by omega) (by unfold big; omega) fun w2 G4 hw5 hz4 hf4 hn4 => ?_
    refine ⟨draw2_weak (by kernel_rfl), ?_⟩
    simp only [go_sem, seval, intss_index hh3.intss, htl]
    refine hss_put hh3 htl (xs := nth yss t0 [] ++ [b]) (by rw [List.length_append, List.map_append]; exact hw5) hz4 hf4 hn4 (by simp only [go_sem, seval]) fun G5 h5 hz5 hf5 hi5 => ?_
    simp only [go_sem, seval]
    have idt : ∀ id, id < G.size → ¬ InF (.slice a' m' c') us' id → G5.get id = G2.get id := fun id hi hno => by
      rw [hf5 id fun e => hno (.inl e), hf4 id (by rw [size_push]; omega) fun e => hno (.inr ⟨t0, by rw [g2.len]; exact htl, e⟩), get_push_lt _ _ _ (by omega)]
    have ids : ∀ id, id < G.size → ¬ InF (.slice a m c) vs' id → ¬ InF (.slice a' m' c') us' id → G5.get id = G.get id := fun id hi hno hno2 => by
      rw [idt id hi hno2, hf2 id fun e => hno (.inl e)]
    refine ⟨floatCond_cons (l := []) (by kernel_rfl) floatOne_nil (floatCond_cons (l := [.tmp 75]) (by kernel_rfl) (floatOne_cons (fun id e => ?_) floatOne_nil) (by simp only [go_sem, seval])), ?_⟩
    · simp only [go_sem, seval] at e
      obtain rfl : H.size + 1 = id := by cases e; rfl
      exact hf4 _ (by rw [size_push]; omega) fun e => nto _ (by omega) (.inr ⟨t0, by rw [g2.len]; exact htl, e⟩)
    have p3 : G5.get H1.size = .rw 3 [.slice a m c, .int .i64 q, .slice a' m' c'] := by rw [ids _ (by omega) (fun e => by have := h1.low e; omega) (fun e => by have := g1.low e; omega), f3]
    have p2 : G5.get (H.size + 2) = .rw 3 [.slice none 0 0, .int .i64 0, .slice none 0 0] := by rw [ids _ (by omega) (nfo _ (by omega)) (nto _ (by omega)), f2]
    have hz5' : G.size ≤ G5.size := by rw [size_push] at hz4; omega
    have k5 : AKeep H G5 := ⟨by have := kG.size; omega, fun id hi => by rw [ids id (by omega) (nfo id (by omega)) (nto id (by omega)), kG.get id hi]⟩
    have f5 : HSS (H.size + (0 + 1 + 1 + 1)) G5 (.slice a m c) (vs'.set a0 w) (xss.set a0 xs1) := h3.keepF (by omega) fun id hi => idt id (by have := h3.low hi; omega) fun e => by
      have := g2.low e
      rcases hi2 id hi with h4 | h4
      · exact o1 id h4 e
      · omega
    have o5 : Off (.slice a' m' c') (us'.set t0 w2) (.slice a m c) (vs'.set a0 w) := fun id hi hi' => by
      have := h3.low hi'
      rcases hi5 id hi with h4 | h4
      · have := g2.low h4
        rcases hi2 id hi' with h6 | h6
        · exact o1 id h6 h4
        · omega
      · rw [size_push] at h4; omega
    simp only [go_sem, seval, p3]
    refine validTerminal_c f5.intss h5.intss fun G6 k6 => ?_
    have p2 : G6.get (H.size + 2) = .rw 3 [.slice none 0 0, .int .i64 0, .slice none 0 0] := by rw [k6.get _ (by omega), p2]
    have p3 : G6.get H1.size = .rw 3 [.slice a m c, .int .i64 q, .slice a' m' c'] := by rw [k6.get _ (by omega), p3]
    have b6 : H.size + 2 < G6.size := by have := k6.size; omega
    have hR : mkFin (xss.set a0 xs1) q (yss.set t0 (nth yss t0 [] ++ [b])) a0 = R := by
      rw [← hR, if_neg (by omega), ← hxs1]; rfl
    by_cases hval : validTerminal (xss.set a0 xs1) q (yss.set t0 (nth yss t0 [] ++ [b])) = true
    · simp only [go_sem, seval, get_set_same, get_set_ne, Nat.add_left_cancel_iff, hval, p3, p2, b6]
      rw [mkFin, if_pos hval] at hR
      subst hR
      refine hk _ _ _ _ _ ((k5.trans k6).set (by omega)) (((f5.keep k6).keepF (by rw [size_set]; omega) fun id hi => get_set_ne _ _ _ _ ?_).le (by omega)) (((h5.keep k6).keepF (by rw [size_set]; omega) fun id hi => get_set_ne _ _ _ _ ?_).le (by omega)) fun id e1 e2 => o5 id e2 e1
      · have := f5.above hi; omega
      · have := h5.above hi; omega
    · have hval : validTerminal (xss.set a0 xs1) q (yss.set t0 (nth yss t0 [] ++ [b])) = false := by simpa using hval
      simp only [go_sem, seval, get_set_same, get_set_ne, Nat.add_left_cancel_iff, hval, p3, p2, b6]
      rw [mkFin, if_neg (by simp [hval])] at hR
      exact hfail hR.symm _ ((k5.trans k6).set (by omega))
  by_cases hk3 : k = 3
  · subst hk3
    rw [show mkP xss q yss 3 b t = (if tops b yss 0 < 0 ∨ ¬ (0 ≤ t ∧ t ≤ xss.length - 1) then MK.no else mkFin (putAt xss t.toNat b) q (cutAt yss (tops b yss 0).toNat) (tops b yss 0)) by unfold mkP; rw [if_neg (by omega), if_neg (by omega), if_pos rfl]] at hR
    have c1 : ((3 : Int) == 1) = false := rfl
    have c2 : ((3 : Int) == 2) = false := rfl
    simp only [go_sem, seval, get_set_same, get_set_ne, Nat.add_left_cancel_iff, f1, f2, f3, c1, c2]
    refine indexFunc_c g2.intss f1 ?_
    by_cases ha : tops b yss 0 < 0
    · have ha' : decide (tops b yss 0 < 0) = true := by simpa using ha
      rw [if_pos (.inl ha)] at hR
      simp only [go_sem, seval, get_set_same, get_set_ne, Nat.add_left_cancel_iff, f1, f2, b2, ha']
      exact hfail hR.symm _ (kG.set (by omega))
    have ha' : decide (tops b yss 0 < 0) = false := by simpa using ha
    simp only [go_sem, seval, get_set_same, get_set_ne, Nat.add_left_cancel_iff, f1, f2, b2, intss_len h2.intss, ha']
    refine within_c ?_
    have hw : IntKind.i64.wrap ((xss.length : Int) - 1) = (xss.length : Int) - 1 := wrap_id (by omega) (by have := hs.1; omega)
    rw [hw]
    by_cases hb : 0 ≤ t ∧ t ≤ xss.length - 1
    rotate_left
    · have hb' : (decide (0 ≤ t) && decide (t ≤ (xss.length : Int) - 1)) = false := by simpa using hb
      rw [if_pos (.inr hb)] at hR
      simp only [go_sem, seval, get_set_same, get_set_ne, Nat.add_left_cancel_iff, f1, f2, b2, hb']
      exact hfail hR.symm _ (kG.set (by omega))
    have hb' : (decide (0 ≤ t) && decide (t ≤ (xss.length : Int) - 1)) = true := by simpa using hb
    simp only [go_sem, seval, get_set_same, get_set_ne, Nat.add_left_cancel_iff, f1, f2, b2, hb', c1, c2]
    rcases tops_spec (b := b) yss 0 with h3 | ⟨a0, hA, hal, htop⟩
    · exact absurd h3 ha
    rw [Nat.zero_add] at hA
    obtain ⟨t0, rfl⟩ : ∃ t0 : Nat, t = t0 := ⟨t.toNat, by omega⟩
    have htl : t0 < xss.length := by omega
    have hpos : 0 < (nth yss a0 []).length := by unfold onTop at htop; simp at htop; omega
    have hr := (g2.rows a0 hal)
    have hw2 : IntKind.i64.wrap (((nth yss a0 []).length : Int) - 1) = (((nth yss a0 []).length - 1 : Nat) : Int) := by
      rw [wrap_id (by omega) (by have := hs'.2 a0 hal; omega)]; omega
    rw [hA] at hR
    simp only [go_sem, seval, get_set_same, get_set_ne, Nat.add_left_cancel_iff, hA, intss_index g2.intss, intss_load g2.intss, hal, ints_len hr.ints, hw2]
    refine hd_cut hr (by simp only [go_sem, seval]) (by omega) fun w hw3 hw4 => ?_
    simp only [go_sem, seval, intss_index g2.intss, hal]
    obtain ⟨xs1, hxs1⟩ : ∃ xs1, (nth yss a0 []).take ((nth yss a0 []).length - 1) = xs1 := ⟨_, rfl⟩
    have hl1 : xs1.length = (nth yss a0 []).length - 1 := by rw [← hxs1, List.length_take]; omega
    rw [Nat.mul_one, ← List.map_take, hxs1, ← hl1] at hw3
    refine hss_put g2 hal hw3 (Nat.le_refl _) (fun _ _ _ => rfl) (fun id e => .inl (by rw [← hw4]; exact e)) (by simp only [go_sem, seval]) fun G2 h3 hz2 hf2 hi2 => ?_
    have nfo : ∀ id, id < H.size + 3 → ¬ InF (.slice a' m' c') us' id := fun id hi e => by have := g2.above e; omega
    have nto : ∀ id, id < H.size + 3 → ¬ InF (.slice a m c) vs' id := fun id hi e => by have := h2.above e; omega
    have p1 : G2.get (H.size + 1) = .rw 3 [.int .i64 3, .int .i64 b, .int .i64 t0] := by rw [hf2 _ (fun e => nfo _ (by omega) (.inl e)), f1]
    have ht3 := h2.keepF (G' := G2) (by omega) fun id hi => hf2 id fun e => o1' id (.inl e) hi
    simp only [go_sem, seval, get_set_same, get_set_ne, Nat.add_left_cancel_iff, p1, intss_index ht3.intss, intss_load ht3.intss, htl]
    have hr2 := (ht3.rows t0 htl).keep (AKeep.push G2 (.rw 1 [.int .i64 b]))
    have hrl : (nth xss t0 []).length ≤ 1048576 := hs.2 t0 htl
    have hl1' := hs.1
    have hh3 := ht3.keep (AKeep.push G2 (.rw 1 [.int .i64 b]))
    refine hd_app hr2 (by rw [size_push]; omega) (by rfl) (by rfl) (by omega) (by unfold big; omega) fun w2 G4 hw5 hz4 hf4 hn4 => ?_
    refine ⟨draw2_weak (by kernel_rfl), ?_⟩
    simp only [go_sem, seval, intss_index hh3.intss, htl]
    refine hss_put hh3 htl (xs := nth xss t0 [] ++ [b]) (by rw [List.length_append, List.map_append]; exact hw5) hz4 hf4 hn4 (by simp only [go_sem, seval]) fun G5 h5 hz5 hf5 hi5 => ?_
    simp only [go_sem, seval]
    have idt : ∀ id, id < G.size → ¬ InF (.slice a m c) vs' id → G5.get id = G2.get id := fun id hi hno => by
      rw [hf5 id fun e => hno (.inl e), hf4 id (by rw [size_push]; omega) fun e => hno (.inr ⟨t0, by rw [h2.len]; exact htl, e⟩), get_push_lt _ _ _ (by omega)]
    have ids : ∀ id, id < G.size → ¬ InF (.slice a' m' c') us' id → ¬ InF (.slice a m c) vs' id → G5.get id = G.get id := fun id hi hno hno2 => by
      rw [idt id hi hno2, hf2 id fun e => hno (.inl e)]
    refine ⟨floatCond_cons (l := []) (by kernel_rfl) floatOne_nil (floatCond_cons (l := [.tmp 75]) (by kernel_rfl) (floatOne_cons (fun id e => ?_) floatOne_nil) (by simp only [go_sem, seval])), ?_⟩
    · simp only [go_sem, seval] at e
      obtain rfl : H.size + 1 = id := by cases e; rfl
      exact hf4 _ (by rw [size_push]; omega) fun e => nto _ (by omega) (.inr ⟨t0, by rw [h2.len]; exact htl, e⟩)
    have p3 : G5.get H1.size = .rw 3 [.slice a m c, .int .i64 q, .slice a' m' c'] := by rw [ids _ (by omega) (fun e => by have := g1.low e; omega) (fun e => by have := h1.low e; omega), f3]
    have p2 : G5.get (H.size + 2) = .rw 3 [.slice none 0 0, .int .i64 0, .slice none 0 0] := by rw [ids _ (by omega) (nfo _ (by omega)) (nto _ (by omega)), f2]
    have hz5' : G.size ≤ G5.size := by rw [size_push] at hz4; omega
    have k5 : AKeep H G5 := ⟨by have := kG.size; omega, fun id hi => by rw [ids id (by omega) (nfo id (by omega)) (nto id (by omega)), kG.get id hi]⟩
    have f5 : HSS (H.size + (0 + 1 + 1 + 1)) G5 (.slice a' m' c') (us'.set a0 w) (yss.set a0 xs1) := h3.keepF (by omega) fun id hi => idt id (by have := h3.low hi; omega) fun e => by
      have := h2.low e
      rcases hi2 id hi with h4 | h4
      · exact o1' id h4 e
      · omega
    have o5 : Off (.slice a m c) (vs'.set t0 w2) (.slice a' m' c') (us'.set a0 w) := fun id hi hi' => by
      have := h3.low hi'
      rcases hi5 id hi with h4 | h4
      · have := h2.low h4
        rcases hi2 id hi' with h6 | h6
        · exact o1' id h6 h4
        · omega
      · rw [size_push] at h4; omega
    simp only [go_sem, seval, p3]
    refine validTerminal_c h5.intss f5.intss fun G6 k6 => ?_
    have p2 : G6.get (H.size + 2) = .rw 3 [.slice none 0 0, .int .i64 0, .slice none 0 0] := by rw [k6.get _ (by omega), p2]
    have p3 : G6.get H1.size = .rw 3 [.slice a m c, .int .i64 q, .slice a' m' c'] := by rw [k6.get _ (by omega), p3]
    have b6 : H.size + 2 < G6.size := by have := k6.size; omega
    have hR : mkFin (xss.set t0 (nth xss t0 [] ++ [b])) q (yss.set a0 xs1) a0 = R := by
      rw [← hR, if_neg (by omega), ← hxs1]; rfl
    by_cases hval : validTerminal (xss.set t0 (nth xss t0 [] ++ [b])) q (yss.set a0 xs1) = true
    · simp only [go_sem, seval, get_set_same, get_set_ne, Nat.add_left_cancel_iff, hval, p3, p2, b6]
      rw [mkFin, if_pos hval] at hR
      subst hR
      refine hk _ _ _ _ _ ((k5.trans k6).set (by omega)) (((h5.keep k6).keepF (by rw [size_set]; omega) fun id hi => get_set_ne _ _ _ _ ?_).le (by omega)) (((f5.keep k6).keepF (by rw [size_set]; omega) fun id hi => get_set_ne _ _ _ _ ?_).le (by omega)) o5
      · have := h5.above hi; omega
      · have := f5.above hi; omega
    · have hval : validTerminal (xss.set t0 (nth xss t0 [] ++ [b])) q (yss.set a0 xs1) = false := by simpa using hval
      simp only [go_sem, seval, get_set_same, get_set_ne, Nat.add_left_cancel_iff, hval, p3, p2, b6]
      rw [mkFin, if_neg (by simp [hval])] at hR
      exact hfail hR.symm _ ((k5.trans k6).set (by omega))
  · have c1 : (k == 1) = false := by simpa using hk1
    have c2 : (k == 2) = false := by simpa using hk2
    have c3 : (k == 3) = false := by simpa using hk3
    rw [show mkP xss q yss k b t = MK.no by unfold mkP; rw [if_neg hk1, if_neg hk2, if_neg hk3]] at hR
    simp only [go_sem, seval, get_set_same, get_set_ne, Nat.add_left_cancel_iff, c1, c2, c3, f2, b2]
    exact hfail hR.symm _ (kG.set (by omega))
end Go.Ah.A


namespace Go.Ah.A
open Go Go.Ah Go.Proofs
set_option linter.unusedSimpArgs false
variable {H : AHeap} {Kk : Value → AHeap → Prop}
/-- What the reference makes of an order. -/
def spP (y : List (List Int)) (q : Int) (s : List (List Int)) (k b t : Int) : MK :=
  if k = 3 then
    (if (place b s 0).1 < 0 ∨ (place b s 0).2 ≠ (nth s (place b s 0).1.toNat []).length - 1 then MK.no
     else if ¬ (0 ≤ t ∧ t ≤ y.length - 1) then MK.no else mkFin (putAt y t.toNat b) q (cutAt s (place b s 0).1.toNat) 0)
  else
    (if (place b y 0).1 < 0 ∨ (place b y 0).2 ≠ (nth y (place b y 0).1.toNat []).length - 1 ∨ k = 1 ∧ t = (place b y 0).1 then MK.no
     else if k = 1 then (if ¬ (0 ≤ t ∧ t ≤ y.length - 1) then MK.no else mkFin (putAt (cutAt y (place b y 0).1.toNat) t.toNat b) q s 0)
     else if k = 2 then (if ¬ (0 ≤ t ∧ t ≤ s.length - 1) then MK.no else mkFin (cutAt y (place b y 0).1.toNat) q (putAt s t.toNat b) 0)
     else MK.no)
theorem idx_spec {b : Int} : ∀ (xs : List Int) (i : Nat), idx b xs i < 0 ∨ ∃ a : Nat, idx b xs i = ((i + a : Nat) : Int) ∧ a < xs.length ∧ nth xs a 0 = b
  | [], i => .inl (by simp [idx])
  | x :: r, i => by
    unfold idx
    split
    · rename_i h; exact .inr ⟨0, rfl, by simp, h.symm⟩
    · rcases idx_spec r (i + 1) with h | ⟨a, h1, h2, h3⟩
      · exact .inl h
      · exact .inr ⟨a + 1, by rw [h1]; congr 1; omega, by simp; omega, h3⟩
theorem place_spec {b : Int} : ∀ (xss : List (List Int)) (i : Nat), (place b xss i = (-1, -1)) ∨ ∃ a c : Nat, place b xss i = (((i + a : Nat) : Int), (c : Int)) ∧ a < xss.length ∧ c < (nth xss a []).length ∧ nth (nth xss a []) c 0 = b
  | [], i => .inl (by simp [place])
  | s :: r, i => by
    unfold place
    split
    · rename_i h
      rcases idx_spec (b := b) s 0 with h2 | ⟨c, h1, h2, h3⟩
      · omega
      · exact .inr ⟨0, c, by rw [h1]; simp, by simp, h2, h3⟩
    · rcases place_spec r (i + 1) with h | ⟨a, c, h1, h2, h3⟩
      · exact .inl h
      · exact .inr ⟨a + 1, c, by rw [h1]; simp; omega, by simp; omega, h3⟩
set_option maxRecDepth 8000 in
set_option maxHeartbeats 4000000 in
theorem l24Make_c {v u : Value} {vs us : List Value} {xss yss : List (List Int)} {q k b t : Int} (h : IntsS H v vs xss) (g : IntsS H u us yss) (hs : Small xss) (hs' : Small yss)
    (hk : ∀ v' vs' u' us' H', AKeep H H' → HSS H.size H' v' vs' (spP xss q yss k b t).y → HSS H.size H' u' us' (spP xss q yss k b t).s → Off v' vs' u' us' → Kk (.tuple #[.agg #[v', .int .i64 (spP xss q yss k b t).q, u'], .bool (spP xss q yss k b t).ok]) H') : callA Try.prog 44 #[.agg #[v, .int .i64 q, u], .agg #[.int .i64 k, .int .i64 b, .int .i64 t]] H Kk := by
  refine call_go (fn := Try.f44) (rs := [.cell 4 38, .tmp 5]) [18, 22] (by kernel_rfl) rfl rfl follows (by kernel_rfl) ?_
  simp only [go_sem, seval, push_p, pushes_p, size_p, get_p, get_p0, set_p, set_p0]
  have k0 : AKeep H (pushes H [.rw 3 [v, .int .i64 q, u], .rw 3 [.int .i64 k, .int .i64 b, .int .i64 t], .rw 3 [.slice none 0 0, .int .i64 0, .slice none 0 0], .rw 3 [.slice none 0 0, .int .i64 0, .slice none 0 0]]) := keep_p
  refine l24Own_c (h.keep k0) (g.keep k0) hs hs' fun v' vs' u' us' H1 k1 h1 g1 o1 => ?_
  have hz1 := k1.size
  simp only [size_p, List.length_cons, List.length_nil] at hz1 h1 g1
  have e0 : H1.get H.size = .rw 3 [v, .int .i64 q, u] := by rw [k1.get _ (by rw [size_p]; simp), get_p0]; rfl
  have e1 : H1.get (H.size + 1) = .rw 3 [.int .i64 k, .int .i64 b, .int .i64 t] := by rw [k1.get _ (by rw [size_p]; simp), get_p]; rfl
  have e2 : H1.get (H.size + 2) = .rw 3 [.slice none 0 0, .int .i64 0, .slice none 0 0] := by rw [k1.get _ (by rw [size_p]; simp), get_p]; rfl
  have e3 : H1.get (H.size + 3) = .rw 3 [.slice none 0 0, .int .i64 0, .slice none 0 0] := by rw [k1.get _ (by rw [size_p]; simp), get_p]; rfl
  have n0 : H.size ≠ H1.size := by omega
  have n1 : H.size + 1 ≠ H1.size := by omega
  have n2 : H.size + 2 ≠ H1.size := by omega
  have n3 : H.size + 3 ≠ H1.size := by omega
  obtain ⟨a, m, c, rfl⟩ := h1.top.slice
  obtain ⟨a', m', c', rfl⟩ := g1.top.slice
  simp only [go_sem, seval, get_set_same, get_set_ne, Nat.add_left_cancel_iff, e1, get_push_ne _ _ _ n1, push_set]
  have kG : AKeep H (H1.push (.rw 3 [.slice a m c, .int .i64 q, .slice a' m' c'])) := (k0.trans k1).trans (AKeep.push _ _)
  have h2 := h1.keep (AKeep.push _ (.rw 3 [.slice a m c, .int .i64 q, .slice a' m' c']))
  have g2 := g1.keep (AKeep.push _ (.rw 3 [.slice a m c, .int .i64 q, .slice a' m' c']))
  have f0 : (H1.push (.rw 3 [.slice a m c, .int .i64 q, .slice a' m' c'])).get H.size = .rw 3 [v, .int .i64 q, u] := by rw [get_push_lt _ _ _ (by omega), e0]
  have f1 : (H1.push (.rw 3 [.slice a m c, .int .i64 q, .slice a' m' c'])).get (H.size + 1) = .rw 3 [.int .i64 k, .int .i64 b, .int .i64 t] := by rw [get_push_lt _ _ _ (by omega), e1]
  have f2 : (H1.push (.rw 3 [.slice a m c, .int .i64 q, .slice a' m' c'])).get (H.size + 2) = .rw 3 [.slice none 0 0, .int .i64 0, .slice none 0 0] := by rw [get_push_lt _ _ _ (by omega), e2]
  have f3 : (H1.push (.rw 3 [.slice a m c, .int .i64 q, .slice a' m' c'])).get (H.size + 3) = .rw 3 [.slice none 0 0, .int .i64 0, .slice none 0 0] := by rw [get_push_lt _ _ _ (by omega), e3]
  have f4 : (H1.push (.rw 3 [.slice a m c, .int .i64 q, .slice a' m' c'])).get H1.size = .rw 3 [.slice a m c, .int .i64 q, .slice a' m' c'] := get_push_same _ _
  have hzz : (H1.push (.rw 3 [.slice a m c, .int .i64 q, .slice a' m' c'])).size = H1.size + 1 := size_push _ _
  generalize hGe : H1.push (.rw 3 [.slice a m c, .int .i64 q, .slice a' m' c']) = G at *
  obtain ⟨R, hR⟩ : ∃ R, spP xss q yss k b t = R := ⟨_, rfl⟩
  rw [hR] at hk
  have b2 : H.size + 2 < G.size := by omega
  have hfail : R = MK.no → ∀ G', AKeep H G' → Kk (.tuple #[.agg #[.slice none 0 0, .int .i64 0, .slice none 0 0], .bool false]) G' := fun e G' kG' => by
    subst e
    exact hk _ [] _ [] _ kG' hss_nil hss_nil fun id hi => absurd hi inF_nil
  have hG := h.keep kG
  have gG := g.keep kG
  have bs0 := hs.1
  have bs1 := hs'.1
  have hwx : IntKind.i64.wrap ((xss.length : Int) - 1) = (xss.length : Int) - 1 := wrap_id (by omega) (by omega)
  have hwy : IntKind.i64.wrap ((yss.length : Int) - 1) = (yss.length : Int) - 1 := wrap_id (by omega) (by omega)
  by_cases hk3 : k = 3
  · subst hk3
    have c3 : ((3 : Int) == 3) = true := rfl
    have c1 : ((3 : Int) == 1) = false := rfl
    unfold spP at hR
    rw [if_pos rfl] at hR
    simp only [go_sem, seval, get_set_same, get_set_ne, Nat.add_left_cancel_iff, c3, f0, f1]
    refine l9Find_c gG fun G1 kk1 => ?_
    have zz1 := kk1.size
    have f0 : G1.get H.size = .rw 3 [v, .int .i64 q, u] := by rw [kk1.get _ (by omega), f0]
    have f1 : G1.get (H.size + 1) = .rw 3 [.int .i64 3, .int .i64 b, .int .i64 t] := by rw [kk1.get _ (by omega), f1]
    have f2 : G1.get (H.size + 2) = .rw 3 [.slice none 0 0, .int .i64 0, .slice none 0 0] := by rw [kk1.get _ (by omega), f2]
    have f3 : G1.get (H.size + 3) = .rw 3 [.slice none 0 0, .int .i64 0, .slice none 0 0] := by rw [kk1.get _ (by omega), f3]
    have f4 : G1.get H1.size = .rw 3 [.slice a m c, .int .i64 q, .slice a' m' c'] := by rw [kk1.get _ (by omega), f4]
    have b2 : H.size + 2 < G1.size := by omega
    have h2 := h2.keep kk1
    have g2 := g2.keep kk1
    simp only [go_sem, seval, get_set_same, get_set_ne, Nat.add_left_cancel_iff, f0, f1]
    rcases place_spec (b := b) yss 0 with hp | ⟨a0, c0, hp, hal, hcl, hbb⟩
    · have ha' : decide ((-1 : Int) < 0) = true := rfl
      rw [hp] at hR ⊢
      rw [if_pos (.inl (by omega))] at hR
      simp only [go_sem, seval, get_set_same, get_set_ne, Nat.add_left_cancel_iff, ha', f3, f2, b2]
      exact hfail hR.symm _ ((kG.trans kk1).set (by omega))
    rw [Nat.zero_add] at hp
    rw [hp] at hR ⊢
    have ha' : decide ((a0 : Int) < 0) = false := by simp
    have hrr := (gG.keep kk1).2.2 a0 hal
    have hlen := hs'.2 a0 hal
    have hw2 : IntKind.i64.wrap (((nth yss a0 []).length : Int) - 1) = (((nth yss a0 []).length - 1 : Nat) : Int) := by
      rw [wrap_id (by omega) (by omega)]; omega
    simp only [go_sem, seval, get_set_same, get_set_ne, Nat.add_left_cancel_iff, ha', f0, intss_index (gG.keep kk1), intss_load (gG.keep kk1), hal, ints_len hrr, hw2]
    have et : ((a0 : Int)).toNat = a0 := by omega
    dsimp only at hR
    rw [et] at hR
    by_cases hc0 : c0 = (nth yss a0 []).length - 1
    rotate_left
    · have hc0' : ((c0 : Int) != (((nth yss a0 []).length - 1 : Nat) : Int)) = true := by simp; omega
      rw [if_pos (by omega)] at hR
      simp only [go_sem, seval, get_set_same, get_set_ne, Nat.add_left_cancel_iff, hc0', f3, f2, b2]
      exact hfail hR.symm _ ((kG.trans kk1).set (by omega))
    have hc0' : ((c0 : Int) != (((nth yss a0 []).length - 1 : Nat) : Int)) = false := by simp; omega
    simp only [go_sem, seval, get_set_same, get_set_ne, Nat.add_left_cancel_iff, hc0', c3, f4, f1]
    have hr := g2.rows a0 hal
    simp only [go_sem, seval, get_set_same, get_set_ne, Nat.add_left_cancel_iff, intss_index g2.intss, intss_load g2.intss, hal]
    refine hd_cut hr (by simp only [go_sem, seval]) (by omega) fun w hw3 hw4 => ?_
    simp only [go_sem, seval, intss_index g2.intss, hal]
    obtain ⟨xs1, hxs1⟩ : ∃ xs1, (nth yss a0 []).take ((nth yss a0 []).length - 1) = xs1 := ⟨_, rfl⟩
    have hl1 : xs1.length = (nth yss a0 []).length - 1 := by rw [← hxs1, List.length_take]; omega
    rw [Nat.mul_one, ← List.map_take, hc0, hxs1, ← hl1] at hw3
    refine hss_put g2 hal hw3 (Nat.le_refl _) (fun _ _ _ => rfl) (fun id e => .inl (by rw [← hw4]; exact e)) (by simp only [go_sem, seval]) fun G2 h3f hz2 hf2 hi2 => ?_
    have lof : ∀ id, id < H.size + 4 → idOf (.slice a' m' c') ≠ some id := fun id hi e => by have := g2.above (.inl e); omega
    have nof : idOf (.slice a' m' c') ≠ some H1.size := fun e => by have := g1.low (.inl e); omega
    have p1 : G2.get (H.size + 1) = .rw 3 [.int .i64 3, .int .i64 b, .int .i64 t] := by rw [hf2 _ (lof _ (by omega)), f1]
    have p2 : G2.get (H.size + 2) = .rw 3 [.slice none 0 0, .int .i64 0, .slice none 0 0] := by rw [hf2 _ (lof _ (by omega)), f2]
    have p3 : G2.get (H.size + 3) = .rw 3 [.slice none 0 0, .int .i64 0, .slice none 0 0] := by rw [hf2 _ (lof _ (by omega)), f3]
    have p4 : G2.get H1.size = .rw 3 [.slice a m c, .int .i64 q, .slice a' m' c'] := by rw [hf2 _ nof, f4]
    have b22 : H.size + 2 < G2.size := by omega
    have kk2 : AKeep H G2 := ⟨by have := kG.size; omega, fun id hi => by rw [hf2 id (lof id (by omega)), kk1.get id (by have := kG.size; omega), kG.get id hi]⟩
    simp only [go_sem, seval, get_set_same, get_set_ne, Nat.add_left_cancel_iff, p1, c1, c3]
    have h3 := h2.keepF (G' := G2) (by omega) fun id hi => hf2 id fun e => o1 id hi (.inl e)
    have o3 : Off (.slice a m c) vs' (.slice a' m' c') (us'.set a0 w) := fun id h4 h5 => by
      rcases hi2 id h5 with h5 | h5
      · exact o1 id h4 h5
      · have := h2.low h4; omega
    have nt : idOf (.slice a m c) ≠ some H1.size := fun e => by have := h1.low (.inl e); omega
    have hwt := hwx
    have est : (3 : Int) = 3 := rfl
    rw [if_neg (by omega)] at hR
    simp only [go_sem, seval, get_set_same, get_set_ne, Nat.add_left_cancel_iff, p1, p4, intss_len h3.intss, hwt]
    refine l1In_c ?_
    by_cases hb : 0 ≤ t ∧ t ≤ xss.length - 1
    rotate_left
    · have hb' : (decide (0 ≤ t) && decide (t ≤ ((xss.length : Nat) : Int) - 1)) = false := by simpa using hb
      rw [if_pos hb] at hR
      simp only [go_sem, seval, get_set_same, get_set_ne, Nat.add_left_cancel_iff, hb', p2, p3, b22]
      exact hfail hR.symm _ (kk2.set (by omega))
    have hb' : (decide (0 ≤ t) && decide (t ≤ ((xss.length : Nat) : Int) - 1)) = true := by simpa using hb
    obtain ⟨t0, rfl⟩ : ∃ t0 : Nat, t = t0 := ⟨t.toNat, by omega⟩
    rw [if_neg (by omega)] at hR
    have htl0 : t0 < xss.length := by omega
    have htl : t0 < xss.length := by first | exact htl0 | (rw [List.length_set]; exact htl0)
    have hrow := h3.rows t0 htl
    have hrl : (nth xss t0 []).length ≤ 1048576 := hs.2 t0 htl
    simp only [go_sem, seval, get_set_same, get_set_ne, Nat.add_left_cancel_iff, hb', p1, p4, intss_index h3.intss, intss_load h3.intss, htl]
    refine l1Own_c hrow.ints hrl fun w1 G3 kk3 hw1 => ?_
    have zz3 := kk3.size
    have p1 : G3.get (H.size + 1) = .rw 3 [.int .i64 3, .int .i64 b, .int .i64 t0] := by rw [kk3.get _ (by omega), p1]
    have hh3 := h3.keep kk3
    simp only [go_sem, seval, p1]
    refine ⟨draw2_keep kk3, ?_⟩
    refine hd_app (Hd.of (OwnN.of (hw1.keep (AKeep.push _ _)))) (by rw [size_push]; omega) (by rfl) (by rfl) (by omega) (by unfold big; omega) fun w2 G4 hw5 hz4 hf4 hn4 => ?_
    refine ⟨draw2_weak (by kernel_rfl), ?_⟩
    simp only [go_sem, seval, intss_index hh3.intss, htl]
    rw [size_push] at hz4
    refine hss_put h3 htl (xs := nth xss t0 [] ++ [b]) (G' := G4) (by rw [List.length_append, List.map_append]; exact hw5.le (by omega)) (by omega) (fun id hi _ => ?_) (fun id e => .inr ?_) (by simp only [go_sem, seval]) fun G5 h5 hz5 hf5 hi5 => ?_
    · rw [hf4 id (by rw [size_push]; omega) (fun e => by have := hw1.above _ e; omega), get_push_lt _ _ _ (by omega), kk3.get id hi]
    · rcases hn4 id e with h4 | h4
      · have := hw1.above _ h4; omega
      · rw [size_push] at h4; omega
    simp only [go_sem, seval]
    have old : ∀ id, id < G2.size → G4.get id = G2.get id := fun id hi => by
      rw [hf4 id (by rw [size_push]; omega) (fun e => by have := hw1.above _ e; omega), get_push_lt _ _ _ (by omega), kk3.get id hi]
    have old3 : ∀ id, id < G2.size → G4.get id = (G3.push (.rw 1 [.int .i64 b])).get id := fun id hi => by
      rw [hf4 id (by rw [size_push]; omega) (fun e => by have := hw1.above _ e; omega)]
    refine ⟨floatCond_cons (l := []) (by kernel_rfl) floatOne_nil (floatCond_cons (l := [.tmp 118, .tmp 120]) (by kernel_rfl) (floatOne_cons (fun id e => ?_) (floatOne_cons (fun id e => ?_) floatOne_nil)) (by rw [float_keep kk3]; simp only [go_sem, seval])), ?_⟩
    · simp only [go_sem, seval] at e
      obtain rfl : H1.size = id := by cases e; rfl
      exact old3 _ (by omega)
    · simp only [go_sem, seval] at e
      obtain rfl : H.size + 1 = id := by cases e; rfl
      exact old3 _ (by omega)
    have lot : ∀ id, id < H.size + 4 → idOf (.slice a m c) ≠ some id := fun id hi e => by have := h3.above (.inl e); omega
    have p4 : G5.get H1.size = .rw 3 [.slice a m c, .int .i64 q, .slice a' m' c'] := by rw [hf5 _ nt, old _ (by omega), p4]
    have p2 : G5.get (H.size + 2) = .rw 3 [.slice none 0 0, .int .i64 0, .slice none 0 0] := by rw [hf5 _ (lot _ (by omega)), old _ (by omega), p2]
    have p3 : G5.get (H.size + 3) = .rw 3 [.slice none 0 0, .int .i64 0, .slice none 0 0] := by rw [hf5 _ (lot _ (by omega)), old _ (by omega), p3]
    have k5 : AKeep H G5 := ⟨by have := kk2.size; omega, fun id hi => by rw [hf5 _ (lot _ (by omega)), old _ (by omega), kk2.get id hi]⟩
    have g5 := h3f.keepF (G' := G5) (by omega) fun id hi => by rw [hf5 id fun e => o3 id (.inl e) hi, old id (h3f.low hi)]
    have o5 : Off (.slice a m c) (vs'.set t0 w2) (.slice a' m' c') (us'.set a0 w) := fun id hi hi' => by
      have := h3f.low hi'
      rcases hi5 id hi with h4 | h4
      · exact o3 id h4 hi'
      · omega
    simp only [go_sem, seval, p4]
    refine l24Good_c h5.intss g5.intss fun G6 k6 => ?_
    have zz6 := k6.size
    have p2 : G6.get (H.size + 2) = .rw 3 [.slice none 0 0, .int .i64 0, .slice none 0 0] := by rw [k6.get _ (by omega), p2]
    have p3 : G6.get (H.size + 3) = .rw 3 [.slice none 0 0, .int .i64 0, .slice none 0 0] := by rw [k6.get _ (by omega), p3]
    have p4 : G6.get H1.size = .rw 3 [.slice a m c, .int .i64 q, .slice a' m' c'] := by rw [k6.get _ (by omega), p4]
    have b6 : H.size + 2 < G6.size := by omega
    have hR : mkFin (xss.set t0 (nth xss t0 [] ++ [b])) q (yss.set a0 xs1) 0 = R := by
      rw [← hR, ← hxs1]; rfl
    by_cases hval : validTerminal (xss.set t0 (nth xss t0 [] ++ [b])) q (yss.set a0 xs1) = true
    · simp only [go_sem, seval, get_set_same, get_set_ne, Nat.add_left_cancel_iff, hval, p4, p2, b6]
      rw [mkFin, if_pos hval] at hR
      subst hR
      refine hk _ _ _ _ _ ((k5.trans k6).set (by omega)) (((h5.keep k6).keepF (by rw [size_set]; omega) fun id hi => get_set_ne _ _ _ _ ?_).le (by omega)) (((g5.keep k6).keepF (by rw [size_set]; omega) fun id hi => get_set_ne _ _ _ _ ?_).le (by omega)) o5
      · have := h5.above hi; omega
      · have := g5.above hi; omega
    · have hval : validTerminal (xss.set t0 (nth xss t0 [] ++ [b])) q (yss.set a0 xs1) = false := by simpa using hval
      simp only [go_sem, seval, get_set_same, get_set_ne, Nat.add_left_cancel_iff, hval, p3, p2, b6]
      rw [mkFin, if_neg (by simp [hval])] at hR
      exact hfail hR.symm _ ((k5.trans k6).set (by omega))
  by_cases hk1 : k = 1
  · subst hk1
    have c3 : ((1 : Int) == 3) = false := rfl
    have c1 : ((1 : Int) == 1) = true := rfl
    unfold spP at hR
    rw [if_neg (by omega)] at hR
    simp only [go_sem, seval, get_set_same, get_set_ne, Nat.add_left_cancel_iff, c3, f0, f1]
    refine l5Find_c hG fun G1 kk1 => ?_
    have zz1 := kk1.size
    have f0 : G1.get H.size = .rw 3 [v, .int .i64 q, u] := by rw [kk1.get _ (by omega), f0]
    have f1 : G1.get (H.size + 1) = .rw 3 [.int .i64 1, .int .i64 b, .int .i64 t] := by rw [kk1.get _ (by omega), f1]
    have f2 : G1.get (H.size + 2) = .rw 3 [.slice none 0 0, .int .i64 0, .slice none 0 0] := by rw [kk1.get _ (by omega), f2]
    have f3 : G1.get (H.size + 3) = .rw 3 [.slice none 0 0, .int .i64 0, .slice none 0 0] := by rw [kk1.get _ (by omega), f3]
    have f4 : G1.get H1.size = .rw 3 [.slice a m c, .int .i64 q, .slice a' m' c'] := by rw [kk1.get _ (by omega), f4]
    have b2 : H.size + 2 < G1.size := by omega
    have h2 := h2.keep kk1
    have g2 := g2.keep kk1
    simp only [go_sem, seval, get_set_same, get_set_ne, Nat.add_left_cancel_iff, f0, f1]
    rcases place_spec (b := b) xss 0 with hp | ⟨a0, c0, hp, hal, hcl, hbb⟩
    · have ha' : decide ((-1 : Int) < 0) = true := rfl
      rw [hp] at hR ⊢
      rw [if_pos (.inl (by omega))] at hR
      simp only [go_sem, seval, get_set_same, get_set_ne, Nat.add_left_cancel_iff, ha', c1, f1, f3, f2, b2]
      exact hfail hR.symm _ ((kG.trans kk1).set (by omega))
    rw [Nat.zero_add] at hp
    rw [hp] at hR ⊢
    have ha' : decide ((a0 : Int) < 0) = false := by simp
    have hrr := (hG.keep kk1).2.2 a0 hal
    have hlen := hs.2 a0 hal
    have hw2 : IntKind.i64.wrap (((nth xss a0 []).length : Int) - 1) = (((nth xss a0 []).length - 1 : Nat) : Int) := by
      rw [wrap_id (by omega) (by omega)]; omega
    simp only [go_sem, seval, get_set_same, get_set_ne, Nat.add_left_cancel_iff, ha', f0, intss_index (hG.keep kk1), intss_load (hG.keep kk1), hal, ints_len hrr, hw2]
    have et : ((a0 : Int)).toNat = a0 := by omega
    dsimp only at hR
    rw [et] at hR
    by_cases hc0 : c0 = (nth xss a0 []).length - 1
    rotate_left
    · have hc0' : ((c0 : Int) != (((nth xss a0 []).length - 1 : Nat) : Int)) = true := by simp; omega
      rw [if_pos (.inr (.inl (by omega)))] at hR
      simp only [go_sem, seval, get_set_same, get_set_ne, Nat.add_left_cancel_iff, hc0', c1, f1, f3, f2, b2]
      exact hfail hR.symm _ ((kG.trans kk1).set (by omega))
    have hc0' : ((c0 : Int) != (((nth xss a0 []).length - 1 : Nat) : Int)) = false := by simp; omega
    by_cases hta : t = a0
    · have hta' : (t == (a0 : Int)) = true := by simpa using hta
      rw [if_pos (.inr (.inr ⟨rfl, hta⟩))] at hR
      simp only [go_sem, seval, get_set_same, get_set_ne, Nat.add_left_cancel_iff, hc0', hta', c1, f1, f3, f2, b2]
      exact hfail hR.symm _ ((kG.trans kk1).set (by omega))
    have hta' : (t == (a0 : Int)) = false := by simpa using hta
    rw [if_neg (by omega), if_pos rfl] at hR
    simp only [go_sem, seval, get_set_same, get_set_ne, Nat.add_left_cancel_iff, hc0', hta', c1, f4, f1]
    try simp only [go_sem, seval, get_set_same, get_set_ne, Nat.add_left_cancel_iff, hc0', c1, f4, f1]
    have hr := h2.rows a0 hal
    simp only [go_sem, seval, get_set_same, get_set_ne, Nat.add_left_cancel_iff, intss_index h2.intss, intss_load h2.intss, hal]
    refine hd_cut hr (by simp only [go_sem, seval]) (by omega) fun w hw3 hw4 => ?_
    simp only [go_sem, seval, intss_index h2.intss, hal]
    obtain ⟨xs1, hxs1⟩ : ∃ xs1, (nth xss a0 []).take ((nth xss a0 []).length - 1) = xs1 := ⟨_, rfl⟩
    have hl1 : xs1.length = (nth xss a0 []).length - 1 := by rw [← hxs1, List.length_take]; omega
    rw [Nat.mul_one, ← List.map_take, hc0, hxs1, ← hl1] at hw3
    refine hss_put h2 hal hw3 (Nat.le_refl _) (fun _ _ _ => rfl) (fun id e => .inl (by rw [← hw4]; exact e)) (by simp only [go_sem, seval]) fun G2 h3f hz2 hf2 hi2 => ?_
    have lof : ∀ id, id < H.size + 4 → idOf (.slice a m c) ≠ some id := fun id hi e => by have := h2.above (.inl e); omega
    have nof : idOf (.slice a m c) ≠ some H1.size := fun e => by have := h1.low (.inl e); omega
    have p1 : G2.get (H.size + 1) = .rw 3 [.int .i64 1, .int .i64 b, .int .i64 t] := by rw [hf2 _ (lof _ (by omega)), f1]
    have p2 : G2.get (H.size + 2) = .rw 3 [.slice none 0 0, .int .i64 0, .slice none 0 0] := by rw [hf2 _ (lof _ (by omega)), f2]
    have p3 : G2.get (H.size + 3) = .rw 3 [.slice none 0 0, .int .i64 0, .slice none 0 0] := by rw [hf2 _ (lof _ (by omega)), f3]
    have p4 : G2.get H1.size = .rw 3 [.slice a m c, .int .i64 q, .slice a' m' c'] := by rw [hf2 _ nof, f4]
    have b22 : H.size + 2 < G2.size := by omega
    have kk2 : AKeep H G2 := ⟨by have := kG.size; omega, fun id hi => by rw [hf2 id (lof id (by omega)), kk1.get id (by have := kG.size; omega), kG.get id hi]⟩
    simp only [go_sem, seval, get_set_same, get_set_ne, Nat.add_left_cancel_iff, p1, c1, c3]
    have h3 := g2.keepF (G' := G2) (by omega) fun id hi => hf2 id fun e => o1 id (.inl e) hi
    have o3 : Off (.slice a m c) (vs'.set a0 w) (.slice a' m' c') us' := fun id h5 h4 => by
      rcases hi2 id h5 with h5 | h5
      · exact o1 id h5 h4
      · have := g2.low h4; omega
    have nt : idOf (.slice a m c) ≠ some H1.size := fun e => by have := h1.low (.inl e); omega
    have hwt : IntKind.i64.wrap (((xss.set a0 xs1).length : Int) - 1) = (xss.length : Int) - 1 := by rw [List.length_set]; exact hwx
    have lse : (xss.set a0 xs1).length = xss.length := List.length_set
    simp only [go_sem, seval, get_set_same, get_set_ne, Nat.add_left_cancel_iff, p1, p4, intss_len h3f.intss, hwt]
    refine l1In_c ?_
    by_cases hb : 0 ≤ t ∧ t ≤ xss.length - 1
    rotate_left
    · have hb' : (decide (0 ≤ t) && decide (t ≤ ((xss.length : Nat) : Int) - 1)) = false := by simpa using hb
      rw [if_pos hb] at hR
      simp only [go_sem, seval, get_set_same, get_set_ne, Nat.add_left_cancel_iff, hb', p2, p3, b22]
      exact hfail hR.symm _ (kk2.set (by omega))
    have hb' : (decide (0 ≤ t) && decide (t ≤ ((xss.length : Nat) : Int) - 1)) = true := by simpa using hb
    obtain ⟨t0, rfl⟩ : ∃ t0 : Nat, t = t0 := ⟨t.toNat, by omega⟩
    rw [if_neg (by omega)] at hR
    have htl0 : t0 < xss.length := by omega
    have htl : t0 < (xss.set a0 xs1).length := by first | exact htl0 | (rw [List.length_set]; exact htl0)
    have hrow := h3f.rows t0 htl
    have hrl : (nth (xss.set a0 xs1) t0 []).length ≤ 1048576 := by (by_cases e : a0 = t0; (subst e; rw [nth_set_eq hal]; omega); (rw [nth_set_ne e]; exact hs.2 t0 htl0))
    simp only [go_sem, seval, get_set_same, get_set_ne, Nat.add_left_cancel_iff, hb', p1, p4, intss_index h3f.intss, intss_load h3f.intss, htl]
    refine l1Own_c hrow.ints hrl fun w1 G3 kk3 hw1 => ?_
    have zz3 := kk3.size
    have p1 : G3.get (H.size + 1) = .rw 3 [.int .i64 1, .int .i64 b, .int .i64 t0] := by rw [kk3.get _ (by omega), p1]
    have hh3 := h3f.keep kk3
    simp only [go_sem, seval, p1]
    refine ⟨draw2_keep kk3, ?_⟩
    refine hd_app (Hd.of (OwnN.of (hw1.keep (AKeep.push _ _)))) (by rw [size_push]; omega) (by rfl) (by rfl) (by omega) (by unfold big; omega) fun w2 G4 hw5 hz4 hf4 hn4 => ?_
    refine ⟨draw2_weak (by kernel_rfl), ?_⟩
    simp only [go_sem, seval, intss_index hh3.intss, htl]
    rw [size_push] at hz4
    refine hss_put h3f htl (xs := nth (xss.set a0 xs1) t0 [] ++ [b]) (G' := G4) (by rw [List.length_append, List.map_append]; exact hw5.le (by omega)) (by omega) (fun id hi _ => ?_) (fun id e => .inr ?_) (by simp only [go_sem, seval]) fun G5 h5 hz5 hf5 hi5 => ?_
    · rw [hf4 id (by rw [size_push]; omega) (fun e => by have := hw1.above _ e; omega), get_push_lt _ _ _ (by omega), kk3.get id hi]
    · rcases hn4 id e with h4 | h4
      · have := hw1.above _ h4; omega
      · rw [size_push] at h4; omega
    simp only [go_sem, seval]
    have old : ∀ id, id < G2.size → G4.get id = G2.get id := fun id hi => by
      rw [hf4 id (by rw [size_push]; omega) (fun e => by have := hw1.above _ e; omega), get_push_lt _ _ _ (by omega), kk3.get id hi]
    have old3 : ∀ id, id < G2.size → G4.get id = (G3.push (.rw 1 [.int .i64 b])).get id := fun id hi => by
      rw [hf4 id (by rw [size_push]; omega) (fun e => by have := hw1.above _ e; omega)]
    refine ⟨floatCond_cons (l := []) (by kernel_rfl) floatOne_nil (floatCond_cons (l := [.tmp 118, .tmp 120]) (by kernel_rfl) (floatOne_cons (fun id e => ?_) (floatOne_cons (fun id e => ?_) floatOne_nil)) (by rw [float_keep kk3]; simp only [go_sem, seval])), ?_⟩
    · simp only [go_sem, seval] at e
      obtain rfl : H1.size = id := by cases e; rfl
      exact old3 _ (by omega)
    · simp only [go_sem, seval] at e
      obtain rfl : H.size + 1 = id := by cases e; rfl
      exact old3 _ (by omega)
    have lot : ∀ id, id < H.size + 4 → idOf (.slice a m c) ≠ some id := fun id hi e => by have := h3f.above (.inl e); omega
    have p4 : G5.get H1.size = .rw 3 [.slice a m c, .int .i64 q, .slice a' m' c'] := by rw [hf5 _ nt, old _ (by omega), p4]
    have p2 : G5.get (H.size + 2) = .rw 3 [.slice none 0 0, .int .i64 0, .slice none 0 0] := by rw [hf5 _ (lot _ (by omega)), old _ (by omega), p2]
    have p3 : G5.get (H.size + 3) = .rw 3 [.slice none 0 0, .int .i64 0, .slice none 0 0] := by rw [hf5 _ (lot _ (by omega)), old _ (by omega), p3]
    have k5 : AKeep H G5 := ⟨by have := kk2.size; omega, fun id hi => by rw [hf5 _ (lot _ (by omega)), old _ (by omega), kk2.get id hi]⟩
    have g5 := h3.keepF (G' := G5) (by omega) fun id hi => by rw [hf5 id fun e => o3 id (.inl e) hi, old id (h3.low hi)]
    have o5 : Off (.slice a m c) ((vs'.set a0 w).set t0 w2) (.slice a' m' c') us' := fun id hi hi' => by
      have := h3.low hi'
      rcases hi5 id hi with h4 | h4
      · exact o3 id h4 hi'
      · omega
    simp only [go_sem, seval, p4]
    refine l24Good_c h5.intss g5.intss fun G6 k6 => ?_
    have zz6 := k6.size
    have p2 : G6.get (H.size + 2) = .rw 3 [.slice none 0 0, .int .i64 0, .slice none 0 0] := by rw [k6.get _ (by omega), p2]
    have p3 : G6.get (H.size + 3) = .rw 3 [.slice none 0 0, .int .i64 0, .slice none 0 0] := by rw [k6.get _ (by omega), p3]
    have p4 : G6.get H1.size = .rw 3 [.slice a m c, .int .i64 q, .slice a' m' c'] := by rw [k6.get _ (by omega), p4]
    have b6 : H.size + 2 < G6.size := by omega
    have hR : mkFin ((xss.set a0 xs1).set t0 (nth (xss.set a0 xs1) t0 [] ++ [b])) q yss 0 = R := by
      rw [← hR, ← hxs1]; rfl
    by_cases hval : validTerminal ((xss.set a0 xs1).set t0 (nth (xss.set a0 xs1) t0 [] ++ [b])) q yss = true
    · simp only [go_sem, seval, get_set_same, get_set_ne, Nat.add_left_cancel_iff, hval, p4, p2, b6]
      rw [mkFin, if_pos hval] at hR
      subst hR
      refine hk _ _ _ _ _ ((k5.trans k6).set (by omega)) (((h5.keep k6).keepF (by rw [size_set]; omega) fun id hi => get_set_ne _ _ _ _ ?_).le (by omega)) (((g5.keep k6).keepF (by rw [size_set]; omega) fun id hi => get_set_ne _ _ _ _ ?_).le (by omega)) o5
      · have := h5.above hi; omega
      · have := g5.above hi; omega
    · have hval : validTerminal ((xss.set a0 xs1).set t0 (nth (xss.set a0 xs1) t0 [] ++ [b])) q yss = false := by simpa using hval
      simp only [go_sem, seval, get_set_same, get_set_ne, Nat.add_left_cancel_iff, hval, p3, p2, b6]
      rw [mkFin, if_neg (by simp [hval])] at hR
      exact hfail hR.symm _ ((k5.trans k6).set (by omega))
  by_cases hk2 : k = 2
  · subst hk2
    have c3 : ((2 : Int) == 3) = false := rfl
    have c1 : ((2 : Int) == 1) = false := rfl
    have c2 : ((2 : Int) == 2) = true := rfl
    unfold spP at hR
    rw [if_neg (by omega)] at hR
    simp only [go_sem, seval, get_set_same, get_set_ne, Nat.add_left_cancel_iff, c3, f0, f1]
    refine l5Find_c hG fun G1 kk1 => ?_
    have zz1 := kk1.size
    have f0 : G1.get H.size = .rw 3 [v, .int .i64 q, u] := by rw [kk1.get _ (by omega), f0]
    have f1 : G1.get (H.size + 1) = .rw 3 [.int .i64 2, .int .i64 b, .int .i64 t] := by rw [kk1.get _ (by omega), f1]
    have f2 : G1.get (H.size + 2) = .rw 3 [.slice none 0 0, .int .i64 0, .slice none 0 0] := by rw [kk1.get _ (by omega), f2]
    have f3 : G1.get (H.size + 3) = .rw 3 [.slice none 0 0, .int .i64 0, .slice none 0 0] := by rw [kk1.get _ (by omega), f3]
    have f4 : G1.get H1.size = .rw 3 [.slice a m c, .int .i64 q, .slice a' m' c'] := by rw [kk1.get _ (by omega), f4]
    have b2 : H.size + 2 < G1.size := by omega
    have h2 := h2.keep kk1
    have g2 := g2.keep kk1
    simp only [go_sem, seval, get_set_same, get_set_ne, Nat.add_left_cancel_iff, f0, f1]
    rcases place_spec (b := b) xss 0 with hp | ⟨a0, c0, hp, hal, hcl, hbb⟩
    · have ha' : decide ((-1 : Int) < 0) = true := rfl
      rw [hp] at hR ⊢
      rw [if_pos (.inl (by omega))] at hR
      simp only [go_sem, seval, get_set_same, get_set_ne, Nat.add_left_cancel_iff, ha', c1, f1, f3, f2, b2]
      exact hfail hR.symm _ ((kG.trans kk1).set (by omega))
    rw [Nat.zero_add] at hp
    rw [hp] at hR ⊢
    have ha' : decide ((a0 : Int) < 0) = false := by simp
    have hrr := (hG.keep kk1).2.2 a0 hal
    have hlen := hs.2 a0 hal
    have hw2 : IntKind.i64.wrap (((nth xss a0 []).length : Int) - 1) = (((nth xss a0 []).length - 1 : Nat) : Int) := by
      rw [wrap_id (by omega) (by omega)]; omega
    simp only [go_sem, seval, get_set_same, get_set_ne, Nat.add_left_cancel_iff, ha', f0, intss_index (hG.keep kk1), intss_load (hG.keep kk1), hal, ints_len hrr, hw2]
    have et : ((a0 : Int)).toNat = a0 := by omega
    dsimp only at hR
    rw [et] at hR
    by_cases hc0 : c0 = (nth xss a0 []).length - 1
    rotate_left
    · have hc0' : ((c0 : Int) != (((nth xss a0 []).length - 1 : Nat) : Int)) = true := by simp; omega
      rw [if_pos (.inr (.inl (by omega)))] at hR
      simp only [go_sem, seval, get_set_same, get_set_ne, Nat.add_left_cancel_iff, hc0', c1, f1, f3, f2, b2]
      exact hfail hR.symm _ ((kG.trans kk1).set (by omega))
    have hc0' : ((c0 : Int) != (((nth xss a0 []).length - 1 : Nat) : Int)) = false := by simp; omega
    rw [if_neg (by omega), if_neg (by omega), if_pos rfl] at hR
    try simp only [go_sem, seval, get_set_same, get_set_ne, Nat.add_left_cancel_iff, hc0', c1, f4, f1]
    have hr := h2.rows a0 hal
    simp only [go_sem, seval, get_set_same, get_set_ne, Nat.add_left_cancel_iff, intss_index h2.intss, intss_load h2.intss, hal]
    refine hd_cut hr (by simp only [go_sem, seval]) (by omega) fun w hw3 hw4 => ?_
    simp only [go_sem, seval, intss_index h2.intss, hal]
    obtain ⟨xs1, hxs1⟩ : ∃ xs1, (nth xss a0 []).take ((nth xss a0 []).length - 1) = xs1 := ⟨_, rfl⟩
    have hl1 : xs1.length = (nth xss a0 []).length - 1 := by rw [← hxs1, List.length_take]; omega
    rw [Nat.mul_one, ← List.map_take, hc0, hxs1, ← hl1] at hw3
    refine hss_put h2 hal hw3 (Nat.le_refl _) (fun _ _ _ => rfl) (fun id e => .inl (by rw [← hw4]; exact e)) (by simp only [go_sem, seval]) fun G2 h3f hz2 hf2 hi2 => ?_
    have lof : ∀ id, id < H.size + 4 → idOf (.slice a m c) ≠ some id := fun id hi e => by have := h2.above (.inl e); omega
    have nof : idOf (.slice a m c) ≠ some H1.size := fun e => by have := h1.low (.inl e); omega
    have p1 : G2.get (H.size + 1) = .rw 3 [.int .i64 2, .int .i64 b, .int .i64 t] := by rw [hf2 _ (lof _ (by omega)), f1]
    have p2 : G2.get (H.size + 2) = .rw 3 [.slice none 0 0, .int .i64 0, .slice none 0 0] := by rw [hf2 _ (lof _ (by omega)), f2]
    have p3 : G2.get (H.size + 3) = .rw 3 [.slice none 0 0, .int .i64 0, .slice none 0 0] := by rw [hf2 _ (lof _ (by omega)), f3]
    have p4 : G2.get H1.size = .rw 3 [.slice a m c, .int .i64 q, .slice a' m' c'] := by rw [hf2 _ nof, f4]
    have b22 : H.size + 2 < G2.size := by omega
    have kk2 : AKeep H G2 := ⟨by have := kG.size; omega, fun id hi => by rw [hf2 id (lof id (by omega)), kk1.get id (by have := kG.size; omega), kG.get id hi]⟩
    simp only [go_sem, seval, get_set_same, get_set_ne, Nat.add_left_cancel_iff, p1, c1, c2, c3]
    have h3 := g2.keepF (G' := G2) (by omega) fun id hi => hf2 id fun e => o1 id (.inl e) hi
    have o3 : Off (.slice a' m' c') us' (.slice a m c) (vs'.set a0 w) := fun id h4 h5 => by
      rcases hi2 id h5 with h5 | h5
      · exact o1 id h5 h4
      · have := g2.low h4; omega
    have nt : idOf (.slice a' m' c') ≠ some H1.size := fun e => by have := g1.low (.inl e); omega
    have hwt := hwy
    simp only [go_sem, seval, get_set_same, get_set_ne, Nat.add_left_cancel_iff, p1, p4, intss_len h3.intss, hwt]
    refine l1In_c ?_
    by_cases hb : 0 ≤ t ∧ t ≤ yss.length - 1
    rotate_left
    · have hb' : (decide (0 ≤ t) && decide (t ≤ ((yss.length : Nat) : Int) - 1)) = false := by simpa using hb
      rw [if_pos hb] at hR
      simp only [go_sem, seval, get_set_same, get_set_ne, Nat.add_left_cancel_iff, hb', p2, p3, b22]
      exact hfail hR.symm _ (kk2.set (by omega))
    have hb' : (decide (0 ≤ t) && decide (t ≤ ((yss.length : Nat) : Int) - 1)) = true := by simpa using hb
    obtain ⟨t0, rfl⟩ : ∃ t0 : Nat, t = t0 := ⟨t.toNat, by omega⟩
    rw [if_neg (by omega)] at hR
    have htl0 : t0 < yss.length := by omega
    have htl : t0 < yss.length := by first | exact htl0 | (rw [List.length_set]; exact htl0)
    have hrow := h3.rows t0 htl
    have hrl : (nth yss t0 []).length ≤ 1048576 := hs'.2 t0 htl
    simp only [go_sem, seval, get_set_same, get_set_ne, Nat.add_left_cancel_iff, hb', p1, p4, intss_index h3.intss, intss_load h3.intss, htl]
    refine l1Own_c hrow.ints hrl fun w1 G3 kk3 hw1 => ?_
    have zz3 := kk3.size
    have p1 : G3.get (H.size + 1) = .rw 3 [.int .i64 2, .int .i64 b, .int .i64 t0] := by rw [kk3.get _ (by omega), p1]
    have hh3 := h3.keep kk3
    simp only [go_sem, seval, p1]
    refine ⟨draw2_keep kk3, ?_⟩
    refine hd_app (Hd.of (OwnN.of (hw1.keep (AKeep.push _ _)))) (by rw [size_push]; omega) (by rfl) (by rfl) (by omega) (by unfold big; omega) fun w2 G4 hw5 hz4 hf4 hn4 => ?_
    refine ⟨draw2_weak (by kernel_rfl), ?_⟩
    simp only [go_sem, seval, intss_index hh3.intss, htl]
    rw [size_push] at hz4
    refine hss_put h3 htl (xs := nth yss t0 [] ++ [b]) (G' := G4) (by rw [List.length_append, List.map_append]; exact hw5.le (by omega)) (by omega) (fun id hi _ => ?_) (fun id e => .inr ?_) (by simp only [go_sem, seval]) fun G5 h5 hz5 hf5 hi5 => ?_
    · rw [hf4 id (by rw [size_push]; omega) (fun e => by have := hw1.above _ e; omega), get_push_lt _ _ _ (by omega), kk3.get id hi]
    · rcases hn4 id e with h4 | h4
      · have := hw1.above _ h4; omega
      · rw [size_push] at h4; omega
    simp only [go_sem, seval]
    have old : ∀ id, id < G2.size → G4.get id = G2.get id := fun id hi => by
      rw [hf4 id (by rw [size_push]; omega) (fun e => by have := hw1.above _ e; omega), get_push_lt _ _ _ (by omega), kk3.get id hi]
    have old3 : ∀ id, id < G2.size → G4.get id = (G3.push (.rw 1 [.int .i64 b])).get id := fun id hi => by
      rw [hf4 id (by rw [size_push]; omega) (fun e => by have := hw1.above _ e; omega)]
    refine ⟨floatCond_cons (l := []) (by kernel_rfl) floatOne_nil (floatCond_cons (l := [.tmp 148, .tmp 150]) (by kernel_rfl) (floatOne_cons (fun id e => ?_) (floatOne_cons (fun id e => ?_) floatOne_nil)) (by rw [float_keep kk3]; simp only [go_sem, seval])), ?_⟩
    · simp only [go_sem, seval] at e
      obtain rfl : H1.size = id := by cases e; rfl
      exact old3 _ (by omega)
    · simp only [go_sem, seval] at e
      obtain rfl : H.size + 1 = id := by cases e; rfl
      exact old3 _ (by omega)
    have lot : ∀ id, id < H.size + 4 → idOf (.slice a' m' c') ≠ some id := fun id hi e => by have := h3.above (.inl e); omega
    have p4 : G5.get H1.size = .rw 3 [.slice a m c, .int .i64 q, .slice a' m' c'] := by rw [hf5 _ nt, old _ (by omega), p4]
    have p2 : G5.get (H.size + 2) = .rw 3 [.slice none 0 0, .int .i64 0, .slice none 0 0] := by rw [hf5 _ (lot _ (by omega)), old _ (by omega), p2]
    have p3 : G5.get (H.size + 3) = .rw 3 [.slice none 0 0, .int .i64 0, .slice none 0 0] := by rw [hf5 _ (lot _ (by omega)), old _ (by omega), p3]
    have k5 : AKeep H G5 := ⟨by have := kk2.size; omega, fun id hi => by rw [hf5 _ (lot _ (by omega)), old _ (by omega), kk2.get id hi]⟩
    have g5 := h3f.keepF (G' := G5) (by omega) fun id hi => by rw [hf5 id fun e => o3 id (.inl e) hi, old id (h3f.low hi)]
    have o5 : Off (.slice a' m' c') (us'.set t0 w2) (.slice a m c) (vs'.set a0 w) := fun id hi hi' => by
      have := h3f.low hi'
      rcases hi5 id hi with h4 | h4
      · exact o3 id h4 hi'
      · omega
    simp only [go_sem, seval, p4]
    refine l24Good_c g5.intss h5.intss fun G6 k6 => ?_
    have zz6 := k6.size
    have p2 : G6.get (H.size + 2) = .rw 3 [.slice none 0 0, .int .i64 0, .slice none 0 0] := by rw [k6.get _ (by omega), p2]
    have p3 : G6.get (H.size + 3) = .rw 3 [.slice none 0 0, .int .i64 0, .slice none 0 0] := by rw [k6.get _ (by omega), p3]
    have p4 : G6.get H1.size = .rw 3 [.slice a m c, .int .i64 q, .slice a' m' c'] := by rw [k6.get _ (by omega), p4]
    have b6 : H.size + 2 < G6.size := by omega
    have hR : mkFin (xss.set a0 xs1) q (yss.set t0 (nth yss t0 [] ++ [b])) 0 = R := by
      rw [← hR, ← hxs1]; rfl
    by_cases hval : validTerminal (xss.set a0 xs1) q (yss.set t0 (nth yss t0 [] ++ [b])) = true
    · simp only [go_sem, seval, get_set_same, get_set_ne, Nat.add_left_cancel_iff, hval, p4, p2, b6]
      rw [mkFin, if_pos hval] at hR
      subst hR
      refine hk _ _ _ _ _ ((k5.trans k6).set (by omega)) (((g5.keep k6).keepF (by rw [size_set]; omega) fun id hi => get_set_ne _ _ _ _ ?_).le (by omega)) (((h5.keep k6).keepF (by rw [size_set]; omega) fun id hi => get_set_ne _ _ _ _ ?_).le (by omega)) fun id e1 e2 => o5 id e2 e1
      · have := g5.above hi; omega
      · have := h5.above hi; omega
    · have hval : validTerminal (xss.set a0 xs1) q (yss.set t0 (nth yss t0 [] ++ [b])) = false := by simpa using hval
      simp only [go_sem, seval, get_set_same, get_set_ne, Nat.add_left_cancel_iff, hval, p3, p2, b6]
      rw [mkFin, if_neg (by simp [hval])] at hR
      exact hfail hR.symm _ ((k5.trans k6).set (by omega))
  · have c3 : (k == 3) = false := by simpa using hk3
    have c1 : (k == 1) = false := by simpa using hk1
    have c2 : (k == 2) = false := by simpa using hk2
    unfold spP at hR
    rw [if_neg hk3] at hR
    simp only [go_sem, seval, get_set_same, get_set_ne, Nat.add_left_cancel_iff, c3, f0, f1]
    refine l5Find_c hG fun G1 kk1 => ?_
    have zz1 := kk1.size
    have f0 : G1.get H.size = .rw 3 [v, .int .i64 q, u] := by rw [kk1.get _ (by omega), f0]
    have f1 : G1.get (H.size + 1) = .rw 3 [.int .i64 k, .int .i64 b, .int .i64 t] := by rw [kk1.get _ (by omega), f1]
    have f2 : G1.get (H.size + 2) = .rw 3 [.slice none 0 0, .int .i64 0, .slice none 0 0] := by rw [kk1.get _ (by omega), f2]
    have f3 : G1.get (H.size + 3) = .rw 3 [.slice none 0 0, .int .i64 0, .slice none 0 0] := by rw [kk1.get _ (by omega), f3]
    have f4 : G1.get H1.size = .rw 3 [.slice a m c, .int .i64 q, .slice a' m' c'] := by rw [kk1.get _ (by omega), f4]
    have b2 : H.size + 2 < G1.size := by omega
    have h2 := h2.keep kk1
    have g2 := g2.keep kk1
    simp only [go_sem, seval, get_set_same, get_set_ne, Nat.add_left_cancel_iff, f0, f1]
    rcases place_spec (b := b) xss 0 with hp | ⟨a0, c0, hp, hal, hcl, hbb⟩
    · have ha' : decide ((-1 : Int) < 0) = true := rfl
      rw [hp] at hR ⊢
      rw [if_pos (.inl (by omega))] at hR
      simp only [go_sem, seval, get_set_same, get_set_ne, Nat.add_left_cancel_iff, ha', c1, f1, f3, f2, b2]
      exact hfail hR.symm _ ((kG.trans kk1).set (by omega))
    rw [Nat.zero_add] at hp
    rw [hp] at hR ⊢
    have ha' : decide ((a0 : Int) < 0) = false := by simp
    have hrr := (hG.keep kk1).2.2 a0 hal
    have hlen := hs.2 a0 hal
    have hw2 : IntKind.i64.wrap (((nth xss a0 []).length : Int) - 1) = (((nth xss a0 []).length - 1 : Nat) : Int) := by
      rw [wrap_id (by omega) (by omega)]; omega
    simp only [go_sem, seval, get_set_same, get_set_ne, Nat.add_left_cancel_iff, ha', f0, intss_index (hG.keep kk1), intss_load (hG.keep kk1), hal, ints_len hrr, hw2]
    have et : ((a0 : Int)).toNat = a0 := by omega
    dsimp only at hR
    rw [et] at hR
    by_cases hc0 : c0 = (nth xss a0 []).length - 1
    rotate_left
    · have hc0' : ((c0 : Int) != (((nth xss a0 []).length - 1 : Nat) : Int)) = true := by simp; omega
      rw [if_pos (.inr (.inl (by omega)))] at hR
      simp only [go_sem, seval, get_set_same, get_set_ne, Nat.add_left_cancel_iff, hc0', c1, f1, f3, f2, b2]
      exact hfail hR.symm _ ((kG.trans kk1).set (by omega))
    have hc0' : ((c0 : Int) != (((nth xss a0 []).length - 1 : Nat) : Int)) = false := by simp; omega
    rw [if_neg (by omega)] at hR
    try simp only [go_sem, seval, get_set_same, get_set_ne, Nat.add_left_cancel_iff, hc0', c1, f4, f1]
    have hr := h2.rows a0 hal
    simp only [go_sem, seval, get_set_same, get_set_ne, Nat.add_left_cancel_iff, intss_index h2.intss, intss_load h2.intss, hal]
    refine hd_cut hr (by simp only [go_sem, seval]) (by omega) fun w hw3 hw4 => ?_
    simp only [go_sem, seval, intss_index h2.intss, hal]
    obtain ⟨xs1, hxs1⟩ : ∃ xs1, (nth xss a0 []).take ((nth xss a0 []).length - 1) = xs1 := ⟨_, rfl⟩
    have hl1 : xs1.length = (nth xss a0 []).length - 1 := by rw [← hxs1, List.length_take]; omega
    rw [Nat.mul_one, ← List.map_take, hc0, hxs1, ← hl1] at hw3
    refine hss_put h2 hal hw3 (Nat.le_refl _) (fun _ _ _ => rfl) (fun id e => .inl (by rw [← hw4]; exact e)) (by simp only [go_sem, seval]) fun G2 h3f hz2 hf2 hi2 => ?_
    have lof : ∀ id, id < H.size + 4 → idOf (.slice a m c) ≠ some id := fun id hi e => by have := h2.above (.inl e); omega
    have nof : idOf (.slice a m c) ≠ some H1.size := fun e => by have := h1.low (.inl e); omega
    have p1 : G2.get (H.size + 1) = .rw 3 [.int .i64 k, .int .i64 b, .int .i64 t] := by rw [hf2 _ (lof _ (by omega)), f1]
    have p2 : G2.get (H.size + 2) = .rw 3 [.slice none 0 0, .int .i64 0, .slice none 0 0] := by rw [hf2 _ (lof _ (by omega)), f2]
    have p3 : G2.get (H.size + 3) = .rw 3 [.slice none 0 0, .int .i64 0, .slice none 0 0] := by rw [hf2 _ (lof _ (by omega)), f3]
    have p4 : G2.get H1.size = .rw 3 [.slice a m c, .int .i64 q, .slice a' m' c'] := by rw [hf2 _ nof, f4]
    have b22 : H.size + 2 < G2.size := by omega
    have kk2 : AKeep H G2 := ⟨by have := kG.size; omega, fun id hi => by rw [hf2 id (lof id (by omega)), kk1.get id (by have := kG.size; omega), kG.get id hi]⟩
    rw [if_neg hk1, if_neg hk2] at hR
    simp only [go_sem, seval, get_set_same, get_set_ne, Nat.add_left_cancel_iff, p1, p2, p3, c1, c2, c3, b22]
    exact hfail hR.symm _ (kk2.set (by omega))
end Go.Ah.A


namespace Go.Ah.A
open Go Go.Ah Go.Proofs
theorem rowOk_some {seen : List Int} : ∀ {xs r : List Int}, rowOk seen xs = some r → r = seen ++ xs ∧ (seen.Nodup → r.Nodup) := by
  intro xs
  induction xs generalizing seen with
  | nil => intro r h; simp [rowOk] at h; subst h; simp
  | cons x xs ih =>
    intro r h
    unfold rowOk at h
    split at h
    · rename_i hx
      obtain ⟨h1, h2⟩ := ih h
      refine ⟨by rw [h1]; simp, fun hn => h2 ?_⟩
      rw [List.nodup_append]
      exact ⟨hn, by simp, fun a ha b hb e => by simp at hb; subst hb; subst e; exact hx.2.2 ha⟩
    · cases h
theorem rowsOk_some {m : Int} : ∀ {xss : List (List Int)} {seen r : List Int}, rowsOk m seen xss = some r → r = seen ++ xss.flatten ∧ (seen.Nodup → r.Nodup) := by
  intro xss
  induction xss with
  | nil => intro seen r h; simp [rowsOk] at h; subst h; simp
  | cons x xss ih =>
    intro seen r h
    unfold rowsOk at h
    split at h
    · cases h2 : rowOk seen x with
      | none => rw [h2] at h; cases h
      | some s2 =>
        rw [h2] at h
        obtain ⟨h3, h4⟩ := rowOk_some h2
        obtain ⟨h5, h6⟩ := ih h
        exact ⟨by rw [h5, h3]; simp, fun hn => h6 (h4 hn)⟩
    · cases h
theorem rowsOk_nodup {m : Int} {xss : List (List Int)} (h : (rowsOk m [] xss).isSome = true) : xss.flatten.Nodup := by
  obtain ⟨r, hr⟩ := Option.isSome_iff_exists.1 h
  obtain ⟨h1, h2⟩ := rowsOk_some hr
  rw [List.nil_append] at h1
  rw [← h1]; exact h2 List.nodup_nil
theorem nth_mem {α : Type} {xs : List α} {i : Nat} {d : α} (h : i < xs.length) : nth xs i d ∈ xs := by
  simp only [nth, List.getD_eq_getElem?_getD, List.getElem?_eq_getElem h, Option.getD_some]
  exact List.getElem_mem h
theorem nth_cons_zero {α : Type} {xs : List α} {x d : α} : nth (x :: xs) 0 d = x := rfl
theorem nth_cons_succ {α : Type} {xs : List α} {x d : α} {i : Nat} : nth (x :: xs) (i + 1) d = nth xs i d := rfl
theorem nth_inj {xs : List Int} (h : xs.Nodup) {i j : Nat} (hi : i < xs.length) (hj : j < xs.length) (e : nth xs i 0 = nth xs j 0) : i = j := by
  simp only [nth, List.getD_eq_getElem?_getD, List.getElem?_eq_getElem hi, List.getElem?_eq_getElem hj, Option.getD_some] at e
  have hp := List.pairwise_iff_getElem.1 h
  rcases Nat.lt_trichotomy i j with h1 | h1 | h1
  · exact absurd e (hp i j hi hj h1)
  · exact h1
  · exact absurd e.symm (hp j i hj hi h1)
theorem flat_inj : ∀ {xss : List (List Int)}, xss.flatten.Nodup → ∀ {i j c d : Nat}, i < xss.length → j < xss.length → c < (nth xss i []).length → d < (nth xss j []).length → nth (nth xss i []) c 0 = nth (nth xss j []) d 0 → i = j ∧ c = d
  | [], _, i, _, _, _, hi, _, _, _, _ => by simp at hi
  | x :: r, h, i, j, c, d, hi, hj, hc, hd, e => by
    rw [List.flatten_cons, List.nodup_append] at h
    obtain ⟨h1, h2, h3⟩ := h
    have inr : ∀ k b, k < r.length → b < (nth r k []).length → nth (nth r k []) b 0 ∈ r.flatten := fun k b hk hb => List.mem_flatten.2 ⟨_, nth_mem hk, nth_mem hb⟩
    cases i with
    | zero =>
      cases j with
      | zero => exact ⟨rfl, nth_inj h1 hc hd e⟩
      | succ j =>
        rw [nth_cons_zero] at e hc; rw [nth_cons_succ] at e hd
        exact absurd e (h3 _ (nth_mem hc) _ (inr _ _ (by simpa using hj) hd))
    | succ i =>
      cases j with
      | zero =>
        rw [nth_cons_zero] at e hd; rw [nth_cons_succ] at e hc
        exact absurd e.symm (h3 _ (nth_mem hd) _ (inr _ _ (by simpa using hi) hc))
      | succ j =>
        rw [nth_cons_succ] at e hc; rw [nth_cons_succ] at e hd
        have := flat_inj h2 (by simpa using hi) (by simpa using hj) hc hd e
        exact ⟨by omega, this.2⟩
theorem idx_none {b : Int} : ∀ {xs : List Int} {i : Nat}, idx b xs i < 0 → b ∉ xs
  | [], _, _ => by simp
  | x :: r, i, h => by
    unfold idx at h
    split at h
    · omega
    · rename_i h2
      have := idx_none h
      simp [h2, this]
theorem place_none {b : Int} : ∀ {xss : List (List Int)} {i : Nat}, (place b xss i).1 < 0 → ∀ s ∈ xss, b ∉ s
  | [], _, _ => by simp
  | x :: r, i, h => by
    unfold place at h
    split at h
    · simp at h; omega
    · rename_i h2
      have := place_none h
      intro s hs
      rcases List.mem_cons.1 hs with rfl | hs
      · exact idx_none (i := 0) (by omega)
      · exact this s hs
theorem tops_none {b : Int} : ∀ {xss : List (List Int)} {i : Nat}, tops b xss i < 0 → ∀ s ∈ xss, onTop b s = false
  | [], _, _ => by simp
  | x :: r, i, h => by
    unfold tops at h
    split at h
    · omega
    · rename_i h2
      have := tops_none h
      intro s hs
      rcases List.mem_cons.1 hs with rfl | hs
      · simpa using h2
      · exact this s hs
theorem onTop_iff {b : Int} {s : List Int} : onTop b s = true ↔ 0 < s.length ∧ nth s (s.length - 1) 0 = b := by
  unfold onTop topD
  simp only [Bool.and_eq_true, decide_eq_true_eq, beq_iff_eq]
  constructor
  · rintro ⟨h1, h2⟩; rw [if_neg (by omega)] at h2; exact ⟨h1, h2⟩
  · rintro ⟨h1, h2⟩; exact ⟨h1, by rw [if_neg (by omega)]; exact h2⟩
/-- In rows without a number twice: the top is found where the number stands. -/
theorem tops_place {b : Int} {xss : List (List Int)} (h : xss.flatten.Nodup) :
    (((place b xss 0).1 < 0 ∨ (place b xss 0).2 ≠ (nth xss (place b xss 0).1.toNat []).length - 1) ∧ tops b xss 0 < 0) ∨ (¬ ((place b xss 0).1 < 0 ∨ (place b xss 0).2 ≠ (nth xss (place b xss 0).1.toNat []).length - 1) ∧ tops b xss 0 = (place b xss 0).1) := by
  rcases place_spec (b := b) xss 0 with hp | ⟨a, c, hp, ha, hc, hb⟩
  · left
    refine ⟨.inl (by rw [hp]; decide), ?_⟩
    rcases tops_spec (b := b) xss 0 with h1 | ⟨a, h1, h2, h3⟩
    · exact h1
    · obtain ⟨h4, h5⟩ := onTop_iff.1 h3
      exact absurd (h5 ▸ nth_mem (by omega)) (place_none (b := b) (i := 0) (by rw [hp]; decide) _ (nth_mem h2))
  · rw [Nat.zero_add] at hp
    have e : (place b xss 0).1 = a := by rw [hp]
    have e2 : (place b xss 0).2 = c := by rw [hp]
    rw [e, e2, show ((a : Int)).toNat = a by omega]
    by_cases hl : c = (nth xss a []).length - 1
    · right
      refine ⟨by omega, ?_⟩
      have htop : onTop b (nth xss a []) = true := onTop_iff.2 ⟨by omega, by rw [← hl]; exact hb⟩
      rcases tops_spec (b := b) xss 0 with h1 | ⟨a', h1, h2, h3⟩
      · rw [tops_none h1 _ (nth_mem ha)] at htop; cases htop
      · obtain ⟨h4, h5⟩ := onTop_iff.1 h3
        have := flat_inj h ha h2 hc (by omega : (nth xss a' []).length - 1 < _) (by rw [hb, h5])
        rw [h1]; omega
    · left
      refine ⟨.inr (by omega), ?_⟩
      rcases tops_spec (b := b) xss 0 with h1 | ⟨a', h1, h2, h3⟩
      · exact h1
      · obtain ⟨h4, h5⟩ := onTop_iff.1 h3
        have := flat_inj h ha h2 hc (by omega : (nth xss a' []).length - 1 < _) (by rw [hb, h5])
        obtain ⟨rfl, h6⟩ := this
        exact absurd h6 hl
/-- The same, but for the place from which it moved. -/
def MK.flat (x : MK) : MK := ⟨x.y, x.q, x.s, 0, x.ok⟩
theorem flat_fin {y : List (List Int)} {q : Int} {s : List (List Int)} {a : Int} : (mkFin y q s a).flat = mkFin y q s 0 := by
  unfold mkFin; split <;> rfl
theorem valid_yard {y : List (List Int)} {q : Int} {s : List (List Int)} (h : validTerminal y q s = true) : y.flatten.Nodup := by
  unfold validTerminal validYard at h
  simp only [Bool.and_eq_true] at h
  exact rowsOk_nodup h.1.2
theorem valid_bay {y : List (List Int)} {q : Int} {s : List (List Int)} (h : validTerminal y q s = true) : s.flatten.Nodup := by
  unfold validTerminal validBay at h
  simp only [Bool.and_eq_true] at h
  exact rowsOk_nodup h.2.1.2.2
theorem sp_mk {y : List (List Int)} {q : Int} {s : List (List Int)} {k b t : Int} (h : validTerminal y q s = true) : spP y q s k b t = (mkP y q s k b t).flat := by
  by_cases h3 : k = 3
  · subst h3
    have em : mkP y q s 3 b t = (if tops b s 0 < 0 ∨ ¬ (0 ≤ t ∧ t ≤ y.length - 1) then MK.no else mkFin (putAt y t.toNat b) q (cutAt s (tops b s 0).toNat) (tops b s 0)) := by
      unfold mkP; rw [if_neg (by omega), if_neg (by omega), if_pos rfl]
    unfold spP
    rw [em, if_pos rfl]
    rcases tops_place (b := b) (valid_bay h) with ⟨h1, h2⟩ | ⟨h1, h2⟩
    · rw [if_pos h1, if_pos (.inl h2)]; rfl
    · rw [if_neg h1]
      by_cases h4 : 0 ≤ t ∧ t ≤ (y.length : Int) - 1
      · rw [if_neg (by omega), if_neg (by rw [h2]; omega), h2, flat_fin]
      · rw [if_pos h4, if_pos (.inr h4)]; rfl
  · unfold spP mkP
    rw [if_neg h3]
    rcases tops_place (b := b) (valid_yard h) with ⟨h1, h2⟩ | ⟨h1, h2⟩
    · rw [if_pos (h1.elim .inl fun h => .inr (.inl h))]
      by_cases k1 : k = 1
      · rw [if_pos k1, if_pos (.inl h2)]; rfl
      · rw [if_neg k1]
        by_cases k2 : k = 2
        · rw [if_pos k2, if_pos (.inl h2)]; rfl
        · rw [if_neg k2, if_neg h3]; rfl
    · by_cases k1 : k = 1
      · rw [if_pos k1, if_pos k1]
        by_cases h5 : t = (place b y 0).1
        · rw [if_pos (.inr (.inr ⟨k1, h5⟩)), if_pos (.inr (.inr (by rw [h2]; exact h5)))]; rfl
        · rw [if_neg (by omega)]
          by_cases h4 : 0 ≤ t ∧ t ≤ (y.length : Int) - 1
          · rw [if_neg (by omega), if_neg (by rw [h2]; omega), h2, flat_fin]
          · rw [if_pos h4, if_pos (.inr (.inl h4))]; rfl
      · rw [if_neg (by omega), if_neg k1, if_neg k1]
        by_cases k2 : k = 2
        · rw [if_pos k2, if_pos k2]
          by_cases h4 : 0 ≤ t ∧ t ≤ (s.length : Int) - 1
          · rw [if_neg (by omega), if_neg (by rw [h2]; omega), h2, flat_fin]
          · rw [if_pos h4, if_pos (.inr h4)]; rfl
        · rw [if_neg k2, if_neg k2, if_neg h3]; rfl
end Go.Ah.A


namespace Go.Ah.A
open Go Go.Ah Go.Proofs
set_option linter.unusedSimpArgs false
variable {H : AHeap} {Kk : Value → AHeap → Prop}
/-- What MakeOrder gives. -/
def moveP (y : List (List Int)) (q : Int) (s : List (List Int)) (k b t : Int) : MK := if validTerminal y q s = true then (mkP y q s k b t).flat else MK.no
set_option maxRecDepth 8000 in
theorem spMakeOrder_c {v u : Value} {vs us : List Value} {xss yss : List (List Int)} {q k b t : Int} (h : IntsS H v vs xss) (g : IntsS H u us yss) (hs : Small xss) (hs' : Small yss)
    (hk : ∀ v' vs' u' us' H', AKeep H H' → HSS H.size H' v' vs' (moveP xss q yss k b t).y → HSS H.size H' u' us' (moveP xss q yss k b t).s → Off v' vs' u' us' → Kk (.tuple #[.agg #[v', .int .i64 (moveP xss q yss k b t).q, u'], .bool (moveP xss q yss k b t).ok]) H') : callA Try.prog 15 #[.agg #[v, .int .i64 q, u], .agg #[.int .i64 k, .int .i64 b, .int .i64 t]] H Kk := by
  refine call_go (fn := Try.f15) (rs := [.cell 4 38, .tmp 5]) [] (by kernel_rfl) rfl rfl follows (by kernel_rfl) ?_
  simp only [go_sem, seval, push_p, pushes_p, size_p, get_p, get_p0, set_p, set_p0]
  have k0 : AKeep H (pushes H [.rw 3 [v, .int .i64 q, u], .rw 3 [.int .i64 k, .int .i64 b, .int .i64 t], .rw 3 [.slice none 0 0, .int .i64 0, .slice none 0 0]]) := keep_p
  refine l24Good_c (h.keep k0) (g.keep k0) fun H1 k1 => ?_
  have hz1 := k1.size
  simp only [size_p, List.length_cons, List.length_nil] at hz1
  have e0 : H1.get H.size = .rw 3 [v, .int .i64 q, u] := by rw [k1.get _ (by rw [size_p]; simp), get_p0]; rfl
  have e1 : H1.get (H.size + 1) = .rw 3 [.int .i64 k, .int .i64 b, .int .i64 t] := by rw [k1.get _ (by rw [size_p]; simp), get_p]; rfl
  have e2 : H1.get (H.size + 2) = .rw 3 [.slice none 0 0, .int .i64 0, .slice none 0 0] := by rw [k1.get _ (by rw [size_p]; simp), get_p]; rfl
  have b2 : H.size + 2 < H1.size := by omega
  have kH := k0.trans k1
  unfold moveP at hk
  by_cases hv : validTerminal xss q yss = true
  rotate_left
  · rw [if_neg hv] at hk
    have hv : validTerminal xss q yss = false := by simpa using hv
    simp only [go_sem, seval, get_set_same, get_set_ne, Nat.add_left_cancel_iff, hv, e2, b2]
    exact hk _ [] _ [] _ (kH.set (by omega)) hss_nil hss_nil fun id hi => absurd hi inF_nil
  rw [if_pos hv, ← sp_mk hv] at hk
  simp only [go_sem, seval, get_set_same, get_set_ne, Nat.add_left_cancel_iff, hv, e0, e1]
  refine l24Make_c (h.keep kH) (g.keep kH) hs hs' fun v' vs' u' us' H2 k2 h2 g2 o2 => ?_
  have hz2 := k2.size
  have e2 : H2.get (H.size + 2) = .rw 3 [.slice none 0 0, .int .i64 0, .slice none 0 0] := by rw [k2.get _ (by omega), e2]
  have b2 : H.size + 2 < H2.size := by omega
  obtain ⟨a, m, c, rfl⟩ := h2.top.slice
  obtain ⟨a', m', c', rfl⟩ := g2.top.slice
  simp only [go_sem, seval, get_set_same, get_set_ne, Nat.add_left_cancel_iff, e2, b2]
  exact hk _ _ _ _ _ ((kH.trans k2).set (by omega)) ((h2.setL (by omega)).le (by omega)) ((g2.setL (by omega)).le (by omega)) o2
set_option maxRecDepth 8000 in
theorem imMakeOrder_c {v u : Value} {vs us : List Value} {xss yss : List (List Int)} {q k b t : Int} (h : IntsS H v vs xss) (g : IntsS H u us yss) (hs : Small xss) (hs' : Small yss)
    (hk : ∀ v' vs' u' us' H', AKeep H H' → HSS H.size H' v' vs' (moveP xss q yss k b t).y → HSS H.size H' u' us' (moveP xss q yss k b t).s → Off v' vs' u' us' → Kk (.tuple #[.agg #[v', .int .i64 (moveP xss q yss k b t).q, u'], .bool (moveP xss q yss k b t).ok]) H') : callA Try.prog 16 #[.agg #[v, .int .i64 q, u], .agg #[.int .i64 k, .int .i64 b, .int .i64 t]] H Kk := by
  refine call_go (fn := Try.f16) (rs := [.cell 4 38, .tmp 5]) [] (by kernel_rfl) rfl rfl follows (by kernel_rfl) ?_
  simp only [go_sem, seval, push_p, pushes_p, size_p, get_p, get_p0, set_p, set_p0]
  have k0 : AKeep H (pushes H [.rw 3 [v, .int .i64 q, u], .rw 3 [.int .i64 k, .int .i64 b, .int .i64 t], .rw 3 [.slice none 0 0, .int .i64 0, .slice none 0 0]]) := keep_p
  refine validTerminal_c (h.keep k0) (g.keep k0) fun H1 k1 => ?_
  have hz1 := k1.size
  simp only [size_p, List.length_cons, List.length_nil] at hz1
  have e0 : H1.get H.size = .rw 3 [v, .int .i64 q, u] := by rw [k1.get _ (by rw [size_p]; simp), get_p0]; rfl
  have e1 : H1.get (H.size + 1) = .rw 3 [.int .i64 k, .int .i64 b, .int .i64 t] := by rw [k1.get _ (by rw [size_p]; simp), get_p]; rfl
  have e2 : H1.get (H.size + 2) = .rw 3 [.slice none 0 0, .int .i64 0, .slice none 0 0] := by rw [k1.get _ (by rw [size_p]; simp), get_p]; rfl
  have b2 : H.size + 2 < H1.size := by omega
  have kH := k0.trans k1
  unfold moveP at hk
  by_cases hv : validTerminal xss q yss = true
  rotate_left
  · rw [if_neg hv] at hk
    have hv : validTerminal xss q yss = false := by simpa using hv
    simp only [go_sem, seval, get_set_same, get_set_ne, Nat.add_left_cancel_iff, hv, e2, b2]
    exact hk _ [] _ [] _ (kH.set (by omega)) hss_nil hss_nil fun id hi => absurd hi inF_nil
  rw [if_pos hv] at hk
  simp only [go_sem, seval, get_set_same, get_set_ne, Nat.add_left_cancel_iff, hv, e0, e1]
  refine makeOrder_c (h.keep kH) (g.keep kH) hs hs' fun v' vs' u' us' H2 k2 h2 g2 o2 => ?_
  have hz2 := k2.size
  have e2 : H2.get (H.size + 2) = .rw 3 [.slice none 0 0, .int .i64 0, .slice none 0 0] := by rw [k2.get _ (by omega), e2]
  have b2 : H.size + 2 < H2.size + 1 := by omega
  have n2 : H.size + 2 ≠ H2.size := by omega
  obtain ⟨a, m, c, rfl⟩ := h2.top.slice
  obtain ⟨a', m', c', rfl⟩ := g2.top.slice
  simp only [go_sem, seval, get_set_same, get_set_ne, Nat.add_left_cancel_iff, push_set, get_push_ne _ _ _ n2, e2, b2]
  exact hk _ _ _ _ _ (((kH.trans k2).trans (AKeep.push _ _)).set (by omega)) (((h2.keep (AKeep.push _ _)).setL (by omega)).le (by omega)) (((g2.keep (AKeep.push _ _)).setL (by omega)).le (by omega)) o2
end Go.Ah.A


namespace Go.Ah.A
open Go Go.Ah Go.Proofs
set_option linter.unusedSimpArgs false
variable {H : AHeap} {Kk : Value → AHeap → Prop}
/-- What InverseOrder gives: kind, place, done. -/
def invK (k : Int) : Int := if k = 1 then 1 else if k = 2 then 3 else 2
structure IV where
  k : Int
  b : Int
  t : Int
  ok : Bool
def invP (y : List (List Int)) (q : Int) (s : List (List Int)) (k b t : Int) : IV :=
  if validTerminal y q s = true ∧ (mkP y q s k b t).ok = true then ⟨invK k, b, (mkP y q s k b t).a, true⟩ else ⟨0, 0, 0, false⟩
theorem fin_ok {y : List (List Int)} {q : Int} {s : List (List Int)} {a : Int} (h : (mkFin y q s a).ok = true) : mkFin y q s a = ⟨y, q, s, a, true⟩ ∧ validTerminal y q s = true := by
  unfold mkFin at h ⊢
  split
  · rename_i hv; exact ⟨rfl, hv⟩
  · rename_i hv; rw [if_neg hv] at h; cases h
theorem mk_ok {y : List (List Int)} {q : Int} {s : List (List Int)} {k b t : Int} (h : (mkP y q s k b t).ok = true) : (k = 1 ∧ (mkP y q s k b t).a = tops b y 0 ∧ 0 ≤ tops b y 0) ∨ (k = 2 ∧ (mkP y q s k b t).a = tops b y 0 ∧ 0 ≤ tops b y 0) ∨ (k = 3 ∧ (mkP y q s k b t).a = tops b s 0 ∧ 0 ≤ tops b s 0) := by
  unfold mkP at h ⊢
  by_cases h1 : k = 1
  · rw [if_pos h1] at h ⊢
    split at h
    · cases h
    · rename_i hc
      rw [if_neg hc, (fin_ok h).1]
      exact .inl ⟨h1, rfl, by omega⟩
  rw [if_neg h1] at h ⊢
  by_cases h2 : k = 2
  · rw [if_pos h2] at h ⊢
    split at h
    · cases h
    · rename_i hc
      rw [if_neg hc, (fin_ok h).1]
      exact .inr (.inl ⟨h2, rfl, by omega⟩)
  rw [if_neg h2] at h ⊢
  by_cases h3 : k = 3
  · rw [if_pos h3] at h ⊢
    split at h
    · cases h
    · rename_i hc
      rw [if_neg hc, (fin_ok h).1]
      exact .inr (.inr ⟨h3, rfl, by omega⟩)
  · rw [if_neg h3] at h; cases h
theorem place_tops {b : Int} {xss : List (List Int)} (h : xss.flatten.Nodup) (h2 : 0 ≤ tops b xss 0) : (place b xss 0).1 = tops b xss 0 := by
  rcases tops_place (b := b) h with ⟨_, h1⟩ | ⟨_, h1⟩
  · omega
  · exact h1.symm
theorem move_ok {y : List (List Int)} {q : Int} {s : List (List Int)} {k b t : Int} : (moveP y q s k b t).ok = true ↔ validTerminal y q s = true ∧ (mkP y q s k b t).ok = true := by
  unfold moveP
  constructor
  · intro h
    split at h
    · rename_i hv; exact ⟨hv, h⟩
    · cases h
  · rintro ⟨h1, h2⟩; rw [if_pos h1]; exact h2
set_option maxRecDepth 8000 in
theorem imInverse_c {v u : Value} {vs us : List Value} {xss yss : List (List Int)} {q k b t : Int} (h : IntsS H v vs xss) (g : IntsS H u us yss) (hs : Small xss) (hs' : Small yss)
    (hk : ∀ H', AKeep H H' → Kk (.tuple #[.agg #[.int .i64 (invP xss q yss k b t).k, .int .i64 (invP xss q yss k b t).b, .int .i64 (invP xss q yss k b t).t], .bool (invP xss q yss k b t).ok]) H') : callA Try.prog 12 #[.agg #[v, .int .i64 q, u], .agg #[.int .i64 k, .int .i64 b, .int .i64 t]] H Kk := by
  refine call_go (fn := Try.f12) (rs := [.cell 4 32, .tmp 5]) [] (by kernel_rfl) rfl rfl follows (by kernel_rfl) ?_
  simp only [go_sem, seval, push_p, pushes_p, size_p, get_p, get_p0, set_p, set_p0]
  have k0 : AKeep H (pushes H [.rw 3 [v, .int .i64 q, u], .rw 3 [.int .i64 k, .int .i64 b, .int .i64 t], .rw 3 [.int .i64 0, .int .i64 0, .int .i64 0]]) := keep_p
  refine validTerminal_c (h.keep k0) (g.keep k0) fun H1 k1 => ?_
  have hz1 := k1.size
  simp only [size_p, List.length_cons, List.length_nil] at hz1
  have e0 : H1.get H.size = .rw 3 [v, .int .i64 q, u] := by rw [k1.get _ (by rw [size_p]; simp), get_p0]; rfl
  have e1 : H1.get (H.size + 1) = .rw 3 [.int .i64 k, .int .i64 b, .int .i64 t] := by rw [k1.get _ (by rw [size_p]; simp), get_p]; rfl
  have e2 : H1.get (H.size + 2) = .rw 3 [.int .i64 0, .int .i64 0, .int .i64 0] := by rw [k1.get _ (by rw [size_p]; simp), get_p]; rfl
  have b2 : H.size + 2 < H1.size := by omega
  have kH := k0.trans k1
  unfold invP at hk
  by_cases hv : validTerminal xss q yss = true
  rotate_left
  · rw [if_neg (fun e => hv e.1)] at hk
    have hv : validTerminal xss q yss = false := by simpa using hv
    simp only [go_sem, seval, get_set_same, get_set_ne, Nat.add_left_cancel_iff, hv, e2, b2]
    exact hk _ (kH.set (by omega))
  simp only [go_sem, seval, get_set_same, get_set_ne, Nat.add_left_cancel_iff, hv, e0, e1]
  refine makeOrder_c (h.keep kH) (g.keep kH) hs hs' fun v' vs' u' us' H2 k2 h2 g2 o2 => ?_
  have hz2 := k2.size
  have e1 : H2.get (H.size + 1) = .rw 3 [.int .i64 k, .int .i64 b, .int .i64 t] := by rw [k2.get _ (by omega), e1]
  have e2 : H2.get (H.size + 2) = .rw 3 [.int .i64 0, .int .i64 0, .int .i64 0] := by rw [k2.get _ (by omega), e2]
  have b2 : H.size + 2 < H2.size + 1 := by omega
  have n2 : H.size + 2 ≠ H2.size := by omega
  obtain ⟨a, m, c, rfl⟩ := h2.top.slice
  obtain ⟨a', m', c', rfl⟩ := g2.top.slice
  simp only [go_sem, seval, get_set_same, get_set_ne, Nat.add_left_cancel_iff, push_set, get_push_ne _ _ _ n2, e2, b2]
  have kH2 := kH.trans k2
  by_cases hok : (mkP xss q yss k b t).ok = true
  rotate_left
  · rw [if_neg (fun e => hok e.2)] at hk
    have hok : (mkP xss q yss k b t).ok = false := by simpa using hok
    simp only [go_sem, seval, get_set_same, get_set_ne, Nat.add_left_cancel_iff, hok, push_set, get_push_ne _ _ _ n2, e2, b2]
    exact hk _ ((kH2.trans (AKeep.push _ _)).set (by omega))
  rw [if_pos ⟨hv, hok⟩] at hk
  have pp : ∀ A B : AObj, ∀ id, id < H2.size → ((H2.push A).push B).get id = H2.get id := fun A B id hi => by rw [get_push_lt _ _ _ (by rw [size_push]; omega), get_push_lt _ _ _ hi]
  have pp1 : ∀ A B : AObj, ((H2.push A).push B).get (H.size + 1) = .rw 3 [.int .i64 k, .int .i64 b, .int .i64 t] := fun A B => by rw [pp _ _ _ (by omega), e1]
  have pp2 : ∀ A B : AObj, ((H2.push A).push B).get (H.size + 2) = .rw 3 [.int .i64 0, .int .i64 0, .int .i64 0] := fun A B => by rw [pp _ _ _ (by omega), e2]
  have b2' : H.size + 2 < H2.size + 1 + 1 := by omega
  have kE : ∀ A B : AObj, AKeep H ((H2.push A).push B) := fun A B => (kH2.trans (AKeep.push _ _)).trans (AKeep.push _ _)
  rcases mk_ok hok with ⟨rfl, ha, h0⟩ | ⟨rfl, ha, h0⟩ | ⟨rfl, ha, h0⟩
  · have i1 : ((1 : Int)).toNat = 1 := rfl
    simp only [go_sem, seval, get_set_same, get_set_ne, Nat.add_left_cancel_iff, hok, push_set, pp1, pp2, b2', i1]
    exact hk _ ((kE _ _).set (by omega))
  · have i1 : ((2 : Int)).toNat = 2 := rfl
    simp only [go_sem, seval, get_set_same, get_set_ne, Nat.add_left_cancel_iff, hok, push_set, pp1, pp2, b2', i1]
    exact hk _ ((kE _ _).set (by omega))
  · have i1 : ((3 : Int)).toNat = 3 := rfl
    simp only [go_sem, seval, get_set_same, get_set_ne, Nat.add_left_cancel_iff, hok, push_set, pp1, pp2, b2', i1]
    exact hk _ ((kE _ _).set (by omega))
set_option maxRecDepth 8000 in
theorem spInverse_c {v u : Value} {vs us : List Value} {xss yss : List (List Int)} {q k b t : Int} (h : IntsS H v vs xss) (g : IntsS H u us yss) (hs : Small xss) (hs' : Small yss)
    (hk : ∀ H', AKeep H H' → Kk (.tuple #[.agg #[.int .i64 (invP xss q yss k b t).k, .int .i64 (invP xss q yss k b t).b, .int .i64 (invP xss q yss k b t).t], .bool (invP xss q yss k b t).ok]) H') : callA Try.prog 9 #[.agg #[v, .int .i64 q, u], .agg #[.int .i64 k, .int .i64 b, .int .i64 t]] H Kk := by
  refine call_go (fn := Try.f9) (rs := [.cell 4 32, .tmp 5]) [] (by kernel_rfl) rfl rfl follows (by kernel_rfl) ?_
  simp only [go_sem, seval, push_p, pushes_p, size_p, get_p, get_p0, set_p, set_p0]
  have k0 : AKeep H (pushes H [.rw 3 [v, .int .i64 q, u], .rw 3 [.int .i64 k, .int .i64 b, .int .i64 t], .rw 3 [.int .i64 0, .int .i64 0, .int .i64 0]]) := keep_p
  refine spMakeOrder_c (h.keep k0) (g.keep k0) hs hs' fun v' vs' u' us' H1 k1 h2 g2 o2 => ?_
  have hz1 := k1.size
  simp only [size_p, List.length_cons, List.length_nil] at hz1
  obtain ⟨a, m, c, rfl⟩ := h2.top.slice
  obtain ⟨a', m', c', rfl⟩ := g2.top.slice
  have e0 : ∀ A, (H1.push A).get H.size = .rw 3 [v, .int .i64 q, u] := fun A => by rw [get_push_lt _ _ _ (by omega), k1.get _ (by rw [size_p]; simp), get_p0]; rfl
  have e1 : ∀ A, (H1.push A).get (H.size + 1) = .rw 3 [.int .i64 k, .int .i64 b, .int .i64 t] := fun A => by rw [get_push_lt _ _ _ (by omega), k1.get _ (by rw [size_p]; simp), get_p]; rfl
  have e2 : ∀ A, (H1.push A).get (H.size + 2) = .rw 3 [.int .i64 0, .int .i64 0, .int .i64 0] := fun A => by rw [get_push_lt _ _ _ (by omega), k1.get _ (by rw [size_p]; simp), get_p]; rfl
  have b2 : H.size + 2 < H1.size + 1 := by omega
  have kH : ∀ A, AKeep H (H1.push A) := fun A => (k0.trans k1).trans (AKeep.push _ _)
  unfold invP at hk
  simp only [go_sem, seval, get_set_same, get_set_ne, Nat.add_left_cancel_iff, push_set]
  by_cases hv : (moveP xss q yss k b t).ok = true
  rotate_left
  · rw [if_neg (fun e => hv (move_ok.2 e))] at hk
    have hv : (moveP xss q yss k b t).ok = false := by simpa using hv
    simp only [go_sem, seval, get_set_same, get_set_ne, Nat.add_left_cancel_iff, hv, e2, b2]
    exact hk _ ((kH _).set (by omega))
  have hvv := move_ok.1 hv
  rw [if_pos hvv] at hk
  simp only [go_sem, seval, get_set_same, get_set_ne, Nat.add_left_cancel_iff, hv, e0, e1]
  refine l5Find_c (h.keep (kH _)) fun H2 k2 => ?_
  have hz2 := k2.size
  rw [size_push] at hz2
  have e0 : H2.get H.size = .rw 3 [v, .int .i64 q, u] := by rw [k2.get _ (by rw [size_push]; omega), e0]
  have e1 : H2.get (H.size + 1) = .rw 3 [.int .i64 k, .int .i64 b, .int .i64 t] := by rw [k2.get _ (by rw [size_push]; omega), e1]
  have e2 : H2.get (H.size + 2) = .rw 3 [.int .i64 0, .int .i64 0, .int .i64 0] := by rw [k2.get _ (by rw [size_push]; omega), e2]
  have kH := (kH _).trans k2
  simp only [go_sem, seval, get_set_same, get_set_ne, Nat.add_left_cancel_iff, e0, e1]
  refine l9Find_c (g.keep kH) fun H3 k3 => ?_
  have hz3 := k3.size
  have e1 : H3.get (H.size + 1) = .rw 3 [.int .i64 k, .int .i64 b, .int .i64 t] := by rw [k3.get _ (by omega), e1]
  have e2 : H3.get (H.size + 2) = .rw 3 [.int .i64 0, .int .i64 0, .int .i64 0] := by rw [k3.get _ (by omega), e2]
  have kH := kH.trans k3
  have b2 : H.size + 2 < H3.size := by omega
  rcases mk_ok hvv.2 with ⟨rfl, ha, h0⟩ | ⟨rfl, ha, h0⟩ | ⟨rfl, ha, h0⟩
  · rw [ha, ← place_tops (valid_yard hvv.1) h0] at hk
    simp only [go_sem, seval, get_set_same, get_set_ne, Nat.add_left_cancel_iff, e1, e2, b2]
    exact hk _ (kH.set (by omega))
  · rw [ha, ← place_tops (valid_yard hvv.1) h0] at hk
    have c1 : ((2 : Int) == 1) = false := rfl
    simp only [go_sem, seval, get_set_same, get_set_ne, Nat.add_left_cancel_iff, e1, e2, b2, c1]
    exact hk _ (kH.set (by omega))
  · rw [ha, ← place_tops (valid_bay hvv.1) h0] at hk
    have c1 : ((3 : Int) == 1) = false := rfl
    have c2 : ((3 : Int) == 2) = false := rfl
    simp only [go_sem, seval, get_set_same, get_set_ne, Nat.add_left_cancel_iff, e1, e2, b2, c1, c2]
    exact hk _ (kH.set (by omega))
end Go.Ah.A


namespace Go.Ah.A
open Go Go.Ah Go.Proofs
set_option linter.unusedSimpArgs false
variable {H : AHeap} {Kk : Value → AHeap → Prop}
set_option maxRecDepth 8000 in
theorem toIntS_h {v : Value} {xs : List Int} (h : Ints H v xs) (hl : xs.length ≤ 1048576) (hk : ∀ v' H', AKeep H H' → Hd H.size H' 1 v' xs.length (xs.map (Value.int .i64)) → Kk v' H') : callA Try.prog 80 #[v] H Kk := by
  have hb := h.lt
  refine call_go (fn := Try.f80) (rs := [.tmp 2]) [] (by kernel_rfl) rfl rfl follows (by kernel_rfl) ?_
  simp only [go_sem, seval, ints_len h]
  refine make_by (sz := 1) (b := 8) (z := .int .i64 0) (by simp only [go_sem, seval]) (by omega) (by unfold unk; omega) rfl (by omega) rfl ?_
  simp only [go_sem, seval, rep1]
  have hcs : ∀ i, i ≤ xs.length → (upTo (xs.map (Value.int .i64)) i xs.length (.int .i64 0)).length = xs.length := fun i hi => upTo_len hi (by simp)
  refine loopF [4, 8, 9, 10, 11, 12, 13, 14, 15, 16, 17, 18, 19, 20] (by kernel_rfl) (I := fun n σ G => ∃ i, n = xs.length - i ∧ σ 4 = .int .i64 (i : Nat) ∧ G = H.push (.rw 1 (upTo (xs.map (Value.int .i64)) i xs.length (.int .i64 0))) ∧ i ≤ xs.length) _ ⟨0, rfl, ?s4, rfl, by omega⟩ ?_

  case s4 => first | (simp only [go_sem, seval]; done) | (simp only [go_sem, seval]; rfl) | (simp only [go_sem, seval, *]; done)
  rintro _ σ1 _ ⟨i, rfl, s4, rfl, hi⟩ hs R ih
  simp only [go_sem, seval, s4, hs, ints_len h]
  refine fork (fun hlt => ?_) (fun hlt => ?_)
  · have hlt : i < xs.length := (dec_lt hlt).1 rfl
    have h' := h.keep (AKeep.push H (.rw 1 (upTo (xs.map (Value.int .i64)) i xs.length (.int .i64 0))))
    simp only [go_sem, seval, hs, s4, ints_index h, ints_load h', hlt, wrap_succ (Nat.lt_of_le_of_lt hlt hb), Int.toNat_natCast, push_set]
    rw [upTo_set (by simp) hlt (nth_map hlt)]
    exact ⟨by omega, by omega, by rw [hcs i hi]; omega, ih _ (by omega) _ _ ⟨i + 1, rfl, by simp only [go_sem, seval], rfl, by omega⟩⟩
  · have hlt : ¬ i < xs.length := by intro h; have := (dec_lt hlt).2 h; cases this
    obtain rfl : i = xs.length := by omega
    simp only [go_sem, seval, hs]
    rw [upTo_all (by simp)]
    refine hk _ _ (AKeep.push _ _) ⟨hb, by simp, .inr ⟨H.size, _, _, rfl, Nat.le_refl _, by rw [size_push]; omega, get_push_same _ _, by simp, by rw [List.take_of_length_le (by simp)], ints_one xs, fun _ => ⟨by omega, by simp⟩, fun hu => absurd hb (by unfold unk at hu; unfold big; omega)⟩⟩
set_option maxRecDepth 8000 in
theorem toIntSS_h {v : Value} {vs : List Value} {xss : List (List Int)} (h : IntsS H v vs xss) (hl : xss.length ≤ 1048576) (hl2 : ∀ i, i < xss.length → (nth xss i []).length ≤ 1048576) (hk : ∀ v' vs' H', AKeep H H' → HSS H.size H' v' vs' xss → Kk v' H') : callA Try.prog 59 #[v] H Kk := by
  have hb := h.lt
  refine call_go (fn := Try.f59) (rs := [.tmp 2]) [] (by kernel_rfl) rfl rfl follows (by kernel_rfl) ?_
  simp only [go_sem, seval, intss_len h]
  refine make_by (sz := 1) (b := 24) (z := .slice none 0 0) (by simp only [go_sem, seval]) (by omega) (by unfold unk; omega) rfl (by omega) rfl ?_
  simp only [go_sem, seval, rep1]
  refine loopF [4, 8, 9, 10, 11, 12, 13, 14, 15, 16, 17, 18, 19, 20, 21] (by kernel_rfl) (I := fun n σ G => ∃ i vs', n = xss.length - i ∧ σ 4 = .int .i64 (i : Nat) ∧ i ≤ xss.length ∧ AKeep H G ∧ vs'.length = xss.length ∧ At G H.size (.rw 1 (upTo vs' i xss.length (.slice none 0 0))) ∧ (∀ j, j < i → Hd (H.size + 1) G 1 (nth vs' j undef) (nth xss j []).length ((nth xss j []).map (Value.int .i64))) ∧ (∀ j j' id, j < i → j' < i → j ≠ j' → idOf (nth vs' j undef) = some id → idOf (nth vs' j' undef) ≠ some id)) _ ⟨0, List.replicate xss.length undef, rfl, ?s4, by omega, AKeep.push _ _, by simp, ⟨by rw [size_push]; omega, by rw [get_push_same]; simp [upTo]⟩, fun j hj => by omega, fun j j' id hj => by omega⟩ ?_

  case s4 => first | (simp only [go_sem, seval]; done) | (simp only [go_sem, seval]; rfl) | (simp only [go_sem, seval, *]; done)
  rintro _ σ1 _ ⟨i, vs', rfl, s4, hi, hkp, hvl, hg, hj, hap⟩ hs R ih
  rename_i G
  simp only [go_sem, seval, s4, hs, intss_len h]
  have h' := h.keep hkp
  refine fork (fun hlt => ?_) (fun hlt => ?_)
  · have hlt : i < xss.length := (dec_lt hlt).1 rfl
    simp only [go_sem, seval, hs, s4, intss_index h', intss_load h', hlt]
    refine toIntS_h (h'.2.2 i hlt) (hl2 i hlt) fun v' G' kp hin => ?_
    have hgG := hg.keep kp
    simp only [go_sem, seval]
    have hlen : (upTo vs' i xss.length (.slice none 0 0)).length = xss.length := upTo_len hi hvl.symm
    obtain ⟨a, m, c, rfl⟩ := hin.slice
    simp only [hgG.get, go_sem, seval, s4, Int.toNat_natCast, wrap_succ (Nat.lt_of_le_of_lt hlt hb)]
    rw [upTo_put hvl.symm hlt]
    have hz := hg.lt
    have hkz := kp.size
    have sn : ∀ {w : Value} {n : Nat} {css : List Value} {lo : Nat} {o : AObj}, Hd lo G' 1 w n css → H.size < lo → Hd lo (G'.set H.size o) 1 w n css := fun hw hlo => hw.keepF (by rw [size_set]; omega) fun id e => get_set_ne _ _ _ _ (by have := hw.above id e; omega)
    refine ⟨by omega, by omega, by omega, ih _ (by omega) _ _ ⟨i + 1, vs'.set i (.slice a m c), rfl, by simp only [go_sem, seval], by omega, (hkp.trans kp).set (Nat.le_refl _), by simpa using hvl, hgG.setE _, fun j hj' => ?_, fun j j' id hj1 hj2 hne e => ?_⟩⟩
    · by_cases e : j = i
      · subst e
        rw [nth_set_eq (by omega)]
        exact (sn hin (by omega)).le (by omega)
      · rw [nth_set_ne (by omega)]
        exact sn ((hj j (by omega)).keep kp) (by omega)
    · by_cases e1 : j = i
      · subst e1
        rw [nth_set_eq (by omega)] at e
        rw [nth_set_ne (by omega)]
        intro e2
        have := hin.above _ e; have := (hj j' (by omega)).low _ e2; omega
      · rw [nth_set_ne (by omega)] at e
        by_cases e2 : j' = i
        · subst e2
          rw [nth_set_eq (by omega)]
          intro e3
          have := hin.above _ e3; have := (hj j (by omega)).low _ e; omega
        · rw [nth_set_ne (by omega)]
          exact hap j j' id (by omega) (by omega) hne e
  · have hlt : ¬ i < xss.length := by intro h; have := (dec_lt hlt).2 h; cases this
    obtain rfl : i = xss.length := by omega
    simp only [go_sem, seval, hs]
    rw [upTo_all hvl.symm] at hg
    refine hk _ vs' _ hkp ⟨?_, hvl, fun j hj' => (hj j hj').le (by omega), fun j id hj1 e e2 => ?_, hap⟩
    · rw [hvl]
      have hone : vs'.all (·.oneCell') = true := by
        rw [List.all_eq_true]
        intro x hx
        obtain ⟨n, hn, rfl⟩ := List.getElem_of_mem hx
        have := (hj n (by omega)).one
        simpa [nth, List.getD_eq_getElem?_getD, hn] using this
      exact ⟨hb, by omega, .inr ⟨H.size, _, _, rfl, Nat.le_refl _, hg.lt, hg.get, by omega, by rw [List.take_of_length_le (by omega)], hone, fun _ => ⟨by omega, by omega⟩, fun hu => absurd hb (by unfold unk at hu; unfold big; omega)⟩⟩
    · have := (hj j hj1).above _ e
      cases e2
      omega
theorem toYard_h {v : Value} {vs : List Value} {xss : List (List Int)} (h : IntsS H v vs xss) (hs : Small xss) (hk : ∀ v' vs' H', AKeep H H' → HSS H.size H' v' vs' xss → Kk (.agg #[v']) H') : callA Try.prog 38 #[.agg #[v]] H Kk := by
  refine call_go (fn := Try.f38) (rs := [.cell 2 35]) [] (by kernel_rfl) rfl rfl follows (by kernel_rfl) ?_
  simp only [go_sem, seval, push_p, pushes_p, size_p, get_p, get_p0, set_p, set_p0]
  refine toIntSS_h (h.keep keep_p) hs.1 hs.2 fun v' vs' G k2 hi => ?_
  have e1 := (At.p (H := H) (l := [.rw 1 [v], .rw 1 [.slice none 0 0], .rw 1 [.slice none 0 0]]) 1 _ rfl).keep k2
  have e2 := (At.p (H := H) (l := [.rw 1 [v], .rw 1 [.slice none 0 0], .rw 1 [.slice none 0 0]]) 2 _ rfl).keep k2
  simp only [size_p, List.length_cons, List.length_nil] at hi
  obtain ⟨a, m, c, rfl⟩ := hi.top.slice
  have b1 := e1.lt
  have b2 := e2.lt
  simp only [go_sem, seval, get_set_same, get_set_ne, Nat.add_left_cancel_iff, e1.get, e2.get, b1, b2]
  exact hk _ _ _ ((k2.p1.set (by omega)).set (by omega)) (((hi.setL (by omega)).setL (by omega)).le (by omega))
theorem toBay_h {v : Value} {vs : List Value} {xss : List (List Int)} {n : Int} (h : IntsS H v vs xss) (hs : Small xss) (hk : ∀ v' vs' H', AKeep H H' → HSS H.size H' v' vs' xss → Kk (.agg #[.int .i64 n, v']) H') : callA Try.prog 39 #[.agg #[.int .i64 n, v]] H Kk := by
  refine call_go (fn := Try.f39) (rs := [.cell 2 36]) [] (by kernel_rfl) rfl rfl follows (by kernel_rfl) ?_
  simp only [go_sem, seval, push_p, pushes_p, size_p, get_p, get_p0, set_p, set_p0]
  refine toIntSS_h (h.keep keep_p) hs.1 hs.2 fun v' vs' G k2 hi => ?_
  have e1 := (At.p (H := H) (l := [.rw 2 [.int .i64 n, v], .rw 2 [.int .i64 0, .slice none 0 0], .rw 2 [.int .i64 n, .slice none 0 0]]) 1 _ rfl).keep k2
  have e2 := (At.p (H := H) (l := [.rw 2 [.int .i64 n, v], .rw 2 [.int .i64 0, .slice none 0 0], .rw 2 [.int .i64 n, .slice none 0 0]]) 2 _ rfl).keep k2
  simp only [size_p, List.length_cons, List.length_nil] at hi
  obtain ⟨a, m, c, rfl⟩ := hi.top.slice
  have b1 := e1.lt
  have b2 := e2.lt
  simp only [go_sem, seval, get_set_same, get_set_ne, Nat.add_left_cancel_iff, e1.get, e2.get, b1, b2]
  exact hk _ _ _ ((k2.p1.set (by omega)).set (by omega)) (((hi.setL (by omega)).setL (by omega)).le (by omega))
theorem toTerminal_h {v u : Value} {vs us : List Value} {xss yss : List (List Int)} {n : Int} (h : IntsS H v vs xss) (g : IntsS H u us yss) (hs : Small xss) (hs' : Small yss)
    (hk : ∀ v' vs' u' us' H', AKeep H H' → HSS H.size H' v' vs' xss → HSS H.size H' u' us' yss → Off v' vs' u' us' → Kk (.agg #[v', .int .i64 n, u']) H') : callA Try.prog 10 #[.agg #[v, .int .i64 n, u]] H Kk := by
  refine call_go (fn := Try.f10) (rs := [.cell 2 38]) [] (by kernel_rfl) rfl rfl follows (by kernel_rfl) ?_
  simp only [go_sem, seval, push_p, pushes_p, size_p, get_p, get_p0, set_p, set_p0]
  refine toYard_h (h.keep keep_p) hs fun v' vs' G k2 hi => ?_
  have e0 := (At.p0 (H := H) (l := [.rw 3 [.slice none 0 0, .int .i64 0, .slice none 0 0], .rw 3 [.slice none 0 0, .int .i64 0, .slice none 0 0]])).keep k2
  have e1 := (At.p (H := H) (l := [.rw 3 [v, .int .i64 n, u], .rw 3 [.slice none 0 0, .int .i64 0, .slice none 0 0], .rw 3 [.slice none 0 0, .int .i64 0, .slice none 0 0]]) 1 _ rfl).keep k2
  have e2 := (At.p (H := H) (l := [.rw 3 [v, .int .i64 n, u], .rw 3 [.slice none 0 0, .int .i64 0, .slice none 0 0], .rw 3 [.slice none 0 0, .int .i64 0, .slice none 0 0]]) 2 _ rfl).keep k2
  simp only [size_p, List.length_cons, List.length_nil] at hi
  obtain ⟨a, m, c, rfl⟩ := hi.top.slice
  have b0 := e0.lt
  have b1 := e1.lt
  have b2 := e2.lt
  have d0 : H.size + 2 ≠ H.size := by omega
  simp only [go_sem, seval, get_set_same, get_set_ne, Nat.add_left_cancel_iff, e0.get, e1.get, e2.get, b0, b1, b2, d0]
  have k3 : AKeep H (G.set (H.size + 2) (.rw 3 [.slice a m c, .int .i64 0, .slice none 0 0])) := k2.p1.set (by omega)
  refine toBay_h (g.keep k3) hs' fun u' us' G' k4 hi' => ?_
  have f1 := (e1.setN (k := H.size + 2) (x := .rw 3 [.slice a m c, .int .i64 0, .slice none 0 0]) (by omega)).keep k4
  have f2 := (e2.setE (.rw 3 [.slice a m c, .int .i64 0, .slice none 0 0])).keep k4
  obtain ⟨a', m', c', rfl⟩ := hi'.top.slice
  have b1 := f1.lt
  have b2 := f2.lt
  simp only [go_sem, seval, get_set_same, get_set_ne, Nat.add_left_cancel_iff, f1.get, f2.get, b1, b2]
  have hx := (hi.setL (k := H.size + 2) (o := .rw 3 [.slice a m c, .int .i64 0, .slice none 0 0]) (by omega)).keep k4
  have hlow := (hi.setL (k := H.size + 2) (o := .rw 3 [.slice a m c, .int .i64 0, .slice none 0 0]) (by omega))
  rw [size_set] at hi'
  refine hk _ _ _ _ _ (((k3.trans k4).set (by omega)).set (by omega)) (((hx.setL (by omega)).setL (by omega)).le (by omega)) (((hi'.setL (by omega)).setL (by omega)).le (by omega)) fun id h1 h2 => ?_
  have h5 := hlow.low h1
  rw [size_set] at h5
  have := hi'.above h2
  omega
end Go.Ah.A


namespace Go.Ah.A
open Go Go.Ah Go.Proofs
set_option linter.unusedSimpArgs false
variable {H : AHeap} {Kk : Value → AHeap → Prop}
/-- n numbers from k on. -/
def marks (k : Int) : Nat → List Int
  | 0 => []
  | n + 1 => marks k n ++ [k + n]
theorem marks_len {k : Int} : ∀ n, (marks k n).length = n
  | 0 => rfl
  | n + 1 => by simp [marks, marks_len n]
theorem marks_nth {k : Int} : ∀ {n i : Nat}, i < n → nth (marks k n) i 0 = k + i
  | n + 1, i, h => by
    unfold marks
    by_cases e : i < n
    · rw [nth_append_lt (by rw [marks_len]; exact e), marks_nth e]
    · obtain rfl : i = n := by omega
      have := nth_append_eq (xs := marks k i) (x := k + i) (d := 0)
      rwa [marks_len] at this
theorem hd_index {lo : Nat} {t : TypeId} {v : Value} {n i : Nat} {css : List Value} {K : Value → Prop} {kd : IntKind} (h : Hd lo H 1 v n css) (hs : elemSz Try.prog t = some 1) (hi : i < n) : aIndexAddr Try.prog t v (.int kd i) K = K (elemPtr v i) := by
  rw [row_index h.row hs]
  simp; omega
theorem set_mid {α : Type} {css A : List α} {i : Nat} {x : α} (hA : A.length = i) (hi : i < css.length) : (A ++ css.drop i).set i x = A ++ [x] ++ css.drop (i + 1) := by
  rw [List.set_append_right _ _ (by omega), hA, Nat.sub_self, List.drop_eq_getElem_cons hi, List.set_cons_zero, List.append_assoc]; rfl
set_option maxRecDepth 8000 in
theorem markIntS_c {lo : Nat} {v : Value} {n : Nat} {css : List Value} {k : Int} (h : Hd lo H 1 v n css) (hn : n ≤ 1048576) (h0 : 0 ≤ k) (hb : k ≤ 4611686018427387904)
    (hk : ∀ H', Hd lo H' 1 v n ((marks k n).map (Value.int .i64)) → H'.size = H.size → (∀ id, idOf v ≠ some id → H'.get id = H.get id) → Kk (.int .i64 (k + n)) H') : callA Try.prog 83 #[v, .int .i64 k] H Kk := by
  have hlen := h.len
  rw [Nat.mul_one] at hlen
  refine call_go (fn := Try.f83) (rs := [.tmp 4]) [] (by kernel_rfl) rfl rfl follows (by kernel_rfl) ?_
  simp only [go_sem, seval]
  refine loopF [1, 5, 6, 7, 8, 9, 10, 11, 12, 13, 14, 15, 16, 17] (by kernel_rfl) (I := fun nM σ G => ∃ i, nM = n - i ∧ σ 5 = .int .i64 (i : Nat) ∧ σ 1 = .int .i64 (k + i) ∧ i ≤ n ∧ Hd lo G 1 v n ((marks k i).map (Value.int .i64) ++ css.drop i) ∧ G.size = H.size ∧ (∀ id, idOf v ≠ some id → G.get id = H.get id)) _ ⟨0, rfl, ?s5, ?s1, by omega, by simpa [marks] using h, rfl, fun _ _ => rfl⟩ ?_

  case s5 => first | (simp only [go_sem, seval]; done) | (simp only [go_sem, seval]; rfl) | (simp only [go_sem, seval, *]; done) | (simp only [go_sem, seval]; simp; done)
  case s1 => first | (simp only [go_sem, seval]; done) | (simp only [go_sem, seval]; rfl) | (simp only [go_sem, seval, *]; done) | (simp only [go_sem, seval]; simp; done)
  rintro _ σ1 _ ⟨i, rfl, s5, s1, hi, hh, hz, hf⟩ hs R ih
  rename_i G
  simp only [go_sem, seval, s5, s1, hs, row_len hh.row]
  refine fork (fun hlt => ?_) (fun hlt => ?_)
  · have hlt : i < n := (dec_lt hlt).1 rfl
    have hw : IntKind.i64.wrap (k + i + 1) = k + (i + 1 : Nat) := by rw [wrap_id (by omega) (by omega)]; omega
    have hw2 : IntKind.i64.wrap ((i : Int) + 1) = ((i + 1 : Nat) : Int) := by rw [wrap_id (by omega) (by omega)]; omega
    simp only [go_sem, seval, hs, s5, s1, hd_index hh, hlt]
    refine hd_store (m := 1) hh (by simp only [go_sem, seval]) rfl rfl (by omega) (by omega) fun G' hh' hz' hf' => ?_
    simp only [go_sem, seval, s5, s1, hs, hw, hw2]
    refine ih _ (by omega) _ _ ⟨i + 1, rfl, by simp only [go_sem, seval], by simp only [go_sem, seval], by omega, ?_, by omega, fun id hid => by rw [hf' id hid, hf id hid]⟩
    have e : splice ((marks k i).map (Value.int .i64) ++ css.drop i) i [.int .i64 (k + i)] = (marks k (i + 1)).map (Value.int .i64) ++ css.drop (i + 1) := by
      simp only [splice, marks, List.map_append, List.map_cons, List.map_nil]
      exact set_mid (by simp [marks_len]) (by omega)
    rw [← e]; exact hh'
  · have hlt : ¬ i < n := by intro h; have := (dec_lt hlt).2 h; cases this
    obtain rfl : i = n := by omega
    simp only [go_sem, seval, s1]
    rw [List.drop_eq_nil_of_le (by omega), List.append_nil] at hh
    exact hk _ hh hz hf
set_option maxRecDepth 8000 in
theorem heldIntS_c {v : Value} {n : Nat} {k : Int} (h : Ints H v (marks k n)) (hn : n ≤ 1048576) (h0 : 0 ≤ k) (hb : k ≤ 4611686018427387904) (hk : Kk (.int .i64 (k + n)) H) : callA Try.prog 84 #[v, .int .i64 k] H Kk := by
  have hml := marks_len (k := k) n
  refine call_go (fn := Try.f84) (rs := [.tmp 4]) [] (by kernel_rfl) rfl rfl follows (by kernel_rfl) ?_
  simp only [go_sem, seval]
  refine loopF [1, 4, 5, 6, 7, 8, 9, 10, 11, 12, 13, 14, 15, 16, 17, 18, 19] (by kernel_rfl) (I := fun nM σ G => ∃ i, nM = n - i ∧ σ 5 = .int .i64 (i : Nat) ∧ σ 1 = .int .i64 (k + i) ∧ G = H ∧ i ≤ n) _ ⟨0, rfl, ?s5, ?s1, rfl, by omega⟩ ?_

  case s5 => first | (simp only [go_sem, seval]; done) | (simp only [go_sem, seval]; rfl) | (simp only [go_sem, seval, *]; done) | (simp only [go_sem, seval]; simp; done)
  case s1 => first | (simp only [go_sem, seval]; done) | (simp only [go_sem, seval]; rfl) | (simp only [go_sem, seval, *]; done) | (simp only [go_sem, seval]; simp; done)
  rintro _ σ1 _ ⟨i, rfl, s5, s1, rfl, hi⟩ hs R ih
  simp only [go_sem, seval, s5, s1, hs, ints_len h, hml]
  refine fork (fun hlt => ?_) (fun hlt => ?_)
  · have hlt : i < n := (dec_lt hlt).1 rfl
    have hw : IntKind.i64.wrap (k + i + 1) = k + (i + 1 : Nat) := by rw [wrap_id (by omega) (by omega)]; omega
    have hw2 : IntKind.i64.wrap ((i : Int) + 1) = ((i + 1 : Nat) : Int) := by rw [wrap_id (by omega) (by omega)]; omega
    have hl2 : i < (marks k n).length := by omega
    have hne : (k + (i : Int) != k + i) = false := by simp
    simp only [go_sem, seval, hs, s5, s1, ints_index h, ints_load h, hl2, marks_nth hlt, hne, hw, hw2]
    exact ih _ (by omega) _ _ ⟨i + 1, rfl, by simp only [go_sem, seval], by simp only [go_sem, seval], rfl, by omega⟩
  · have hlt : ¬ i < n := by intro h; have := (dec_lt hlt).2 h; cases this
    obtain rfl : i = n := by omega
    simp only [go_sem, seval, s1]
    exact hk
/-- Numbered rows, and how many there are. -/
def markss (k : Int) : List (List Int) → List (List Int)
  | [] => []
  | s :: r => marks k s.length :: markss (k + s.length) r
def total : List (List Int) → Nat
  | [] => 0
  | s :: r => s.length + total r
@[simp] theorem total_nil : total [] = 0 := rfl
theorem total_app : ∀ (a b : List (List Int)), total (a ++ b) = total a + total b
  | [], b => by simp [total]
  | s :: r, b => by simp [total, total_app r b]; omega
theorem markss_app {k : Int} : ∀ (a b : List (List Int)), markss k (a ++ b) = markss k a ++ markss (k + total a) b
  | [], b => by simp [markss, total]
  | s :: r, b => by
    simp only [List.cons_append, markss, markss_app r b, total]
    rw [show k + (s.length : Int) + (total r : Int) = k + ((s.length + total r : Nat) : Int) by omega]
theorem markss_len {k : Int} : ∀ (a : List (List Int)), (markss k a).length = a.length
  | [] => rfl
  | s :: r => by simp [markss, markss_len r]
theorem total_le {m : Nat} : ∀ (a : List (List Int)), (∀ i, i < a.length → (nth a i []).length ≤ m) → total a ≤ a.length * m
  | [], _ => by simp [total]
  | s :: r, h => by
    have h1 := h 0 (by simp)
    have h2 := total_le r fun i hi => h (i + 1) (by simpa using hi)
    rw [nth_cons_zero] at h1
    simp only [total, List.length_cons, Nat.add_mul]
    omega
theorem small_total {a : List (List Int)} (h : Small a) : total a ≤ 1099511627776 := by
  have := total_le a h.2
  have h1 := h.1
  have : a.length * 1048576 ≤ 1048576 * 1048576 := Nat.mul_le_mul_right _ h1
  omega
theorem total_take (a : List (List Int)) (i : Nat) : total (a.take i) ≤ total a := by
  have := total_app (a.take i) (a.drop i)
  rw [List.take_append_drop] at this
  omega
end Go.Ah.A


namespace Go.Ah.A
open Go Go.Ah Go.Proofs
set_option linter.unusedSimpArgs false
variable {H : AHeap} {Kk : Value → AHeap → Prop}
/-- A row is written where it lies. -/
theorem hss_row {lo k : Nat} {G G' : AHeap} {v : Value} {vs : List Value} {yss : List (List Int)} {ys : List Int} (h : HSS lo G v vs yss) (hk : k < yss.length) (hu : Hd lo G' 1 (nth vs k undef) ys.length (ys.map (Value.int .i64))) (hs : G'.size = G.size)
    (hf : ∀ id, idOf (nth vs k undef) ≠ some id → G'.get id = G.get id) : HSS lo G' v vs (yss.set k ys) := by
  refine ⟨h.top.keepF (by omega) fun id e => hf id fun e2 => h.off k id hk e2 e, by simp [h.len], fun i hi => ?_, fun i id hi => h.off i id (by simpa using hi), fun i j id hi hj => h.apart i j id (by simpa using hi) (by simpa using hj)⟩
  rw [List.length_set] at hi
  by_cases e : k = i
  · subst e; rw [nth_set_eq hk]; exact hu
  · rw [nth_set_ne e]
    exact (h.rows i hi).keepF (by omega) fun id e2 => hf id (h.apart i k id hi hk (fun x => e x.symm) e2)
theorem nth_mid {α : Type} {A xs : List α} {i : Nat} {d : α} (hA : A.length = i) (hi : i < xs.length) : nth (A ++ xs.drop i) i d = nth xs i d := by
  simp only [nth, List.getD_eq_getElem?_getD]
  rw [List.getElem?_append_right (by omega), hA, Nat.sub_self, List.getElem?_drop, Nat.add_zero]
set_option maxRecDepth 8000 in
theorem markIntSS_c {lo : Nat} {v : Value} {vs : List Value} {xss : List (List Int)} {k : Int} (h : HSS lo H v vs xss) (hs0 : Small xss) (h0 : 0 ≤ k) (hb : k ≤ 1125899906842624)
    (hk : ∀ H', HSS lo H' v vs (markss k xss) → H'.size = H.size → (∀ id, ¬ InF v vs id → H'.get id = H.get id) → Kk (.int .i64 (k + total xss)) H') : callA Try.prog 69 #[v, .int .i64 k] H Kk := by
  have ht := small_total hs0
  have hl := hs0.1
  refine call_go (fn := Try.f69) (rs := [.tmp 4]) [] (by kernel_rfl) rfl rfl follows (by kernel_rfl) ?_
  simp only [go_sem, seval]
  refine loopF [1, 5, 6, 7, 8, 9, 10, 11, 12, 13, 14, 15, 16, 17] (by kernel_rfl) (I := fun nM σ G => ∃ i, nM = xss.length - i ∧ σ 5 = .int .i64 (i : Nat) ∧ σ 1 = .int .i64 (k + total (xss.take i)) ∧ i ≤ xss.length ∧ HSS lo G v vs (markss k (xss.take i) ++ xss.drop i) ∧ G.size = H.size ∧ (∀ id, ¬ InF v vs id → G.get id = H.get id)) _ ⟨0, rfl, ?s5, ?s1, by omega, by simpa [markss] using h, rfl, fun _ _ => rfl⟩ ?_

  case s5 => first | (simp only [go_sem, seval]; done) | (simp only [go_sem, seval]; rfl) | (simp only [go_sem, seval, *]; done) | (simp only [go_sem, seval]; simp; done)
  case s1 => first | (simp only [go_sem, seval]; done) | (simp only [go_sem, seval]; rfl) | (simp only [go_sem, seval, *]; done) | (simp only [go_sem, seval]; simp; done)
  rintro _ σ1 _ ⟨i, rfl, s5, s1, hi, hh, hz, hf⟩ hs R ih
  rename_i G
  have hll : (markss k (xss.take i) ++ xss.drop i).length = xss.length := by rw [List.length_append, markss_len, List.length_take, List.length_drop]; omega
  have hml : (markss k (xss.take i)).length = i := by rw [markss_len, List.length_take]; omega
  simp only [go_sem, seval, s5, s1, hs, intss_len hh.intss, hll]
  refine fork (fun hlt => ?_) (fun hlt => ?_)
  · have hlt : i < xss.length := (dec_lt hlt).1 rfl
    have hl2 : i < (markss k (xss.take i) ++ xss.drop i).length := by omega
    have hw2 : IntKind.i64.wrap ((i : Int) + 1) = ((i + 1 : Nat) : Int) := by rw [wrap_id (by omega) (by omega)]; omega
    have hrow := hh.rows i hl2
    rw [nth_mid hml hlt] at hrow
    have hti := total_take xss i
    simp only [go_sem, seval, hs, s5, s1, intss_index hh.intss, intss_load hh.intss, hl2]
    refine markIntS_c hrow (hs0.2 i hlt) (by omega) (by omega) fun G' hr' hz' hf' => ?_
    have htk : total (xss.take (i + 1)) = total (xss.take i) + (nth xss i []).length := by
      rw [take_succ_nth _ _ [] hlt, total_app]; simp [total]
    have hmk : (markss k (xss.take i) ++ xss.drop i).set i (marks (k + total (xss.take i)) (nth xss i []).length) = markss k (xss.take (i + 1)) ++ xss.drop (i + 1) := by
      rw [set_mid hml hlt, take_succ_nth _ _ [] hlt, markss_app]; rfl
    have hnew := hss_row (ys := marks (k + total (xss.take i)) (nth xss i []).length) hh hl2 (by rw [marks_len]; exact hr') hz' hf'
    rw [hmk] at hnew
    simp only [go_sem, seval, s5, hs, hw2]
    refine ih _ (by omega) _ _ ⟨i + 1, rfl, by simp only [go_sem, seval], ?_, by omega, hnew, by omega, fun id hid => ?_⟩
    · simp only [go_sem, seval]; rw [htk]; congr 1; omega
    · rw [hf' id (fun e => hid (.inr ⟨i, by rw [h.len]; exact hlt, e⟩)), hf id hid]
  · have hlt : ¬ i < xss.length := by intro h; have := (dec_lt hlt).2 h; cases this
    obtain rfl : i = xss.length := by omega
    simp only [go_sem, seval, s1]
    rw [List.take_of_length_le (Nat.le_refl _), List.drop_eq_nil_of_le (Nat.le_refl _), List.append_nil] at hh
    rw [List.take_of_length_le (Nat.le_refl _)]
    exact hk _ hh hz hf
theorem markss_nth {k : Int} : ∀ {xss : List (List Int)} {i : Nat}, i < xss.length → nth (markss k xss) i [] = marks (k + total (xss.take i)) (nth xss i []).length
  | s :: r, 0, _ => by simp [markss, nth, total]
  | s :: r, i + 1, h => by
    simp only [markss, List.take_succ_cons, total, nth_cons_succ]
    rw [markss_nth (by simpa using h)]
    congr 1; omega
set_option maxRecDepth 8000 in
theorem heldIntSS_c {v : Value} {vs : List Value} {xss : List (List Int)} {k : Int} (h : IntsS H v vs (markss k xss)) (hs0 : Small xss) (h0 : 0 ≤ k) (hb : k ≤ 1125899906842624)
    (hk : Kk (.int .i64 (k + total xss)) H) : callA Try.prog 70 #[v, .int .i64 k] H Kk := by
  have ht := small_total hs0
  have hl := hs0.1
  have hml := markss_len (k := k) xss
  refine call_go (fn := Try.f70) (rs := [.tmp 4]) [] (by kernel_rfl) rfl rfl follows (by kernel_rfl) ?_
  simp only [go_sem, seval]
  refine loopF [1, 4, 5, 6, 7, 8, 9, 10, 11, 12, 13, 14, 15, 16, 17, 18, 19] (by kernel_rfl) (I := fun nM σ G => ∃ i, nM = xss.length - i ∧ σ 5 = .int .i64 (i : Nat) ∧ σ 1 = .int .i64 (k + total (xss.take i)) ∧ G = H ∧ i ≤ xss.length) _ ⟨0, rfl, ?s5, ?s1, rfl, by omega⟩ ?_

  case s5 => first | (simp only [go_sem, seval]; done) | (simp only [go_sem, seval]; rfl) | (simp only [go_sem, seval, *]; done) | (simp only [go_sem, seval]; simp; done)
  case s1 => first | (simp only [go_sem, seval]; done) | (simp only [go_sem, seval]; rfl) | (simp only [go_sem, seval, *]; done) | (simp only [go_sem, seval]; simp; done)
  rintro _ σ1 _ ⟨i, rfl, s5, s1, rfl, hi⟩ hs R ih
  simp only [go_sem, seval, s5, s1, hs, intss_len h, hml]
  refine fork (fun hlt => ?_) (fun hlt => ?_)
  · have hlt : i < xss.length := (dec_lt hlt).1 rfl
    have hl2 : i < (markss k xss).length := by omega
    have hw2 : IntKind.i64.wrap ((i : Int) + 1) = ((i + 1 : Nat) : Int) := by rw [wrap_id (by omega) (by omega)]; omega
    have hrow := h.2.2 i hl2
    rw [markss_nth hlt] at hrow
    have hti := total_take xss i
    have htk : total (xss.take (i + 1)) = total (xss.take i) + (nth xss i []).length := by
      rw [take_succ_nth _ _ [] hlt, total_app]; simp [total]
    have hti2 := total_take xss (i + 1)
    have hneg : decide (k + (total (xss.take i) : Int) + ((nth xss i []).length : Int) < 0) = false := by simp; omega
    simp only [go_sem, seval, hs, s5, s1, intss_index h, intss_load h, hl2]
    refine heldIntS_c hrow (hs0.2 i hlt) (by omega) (by omega) ?_
    simp only [go_sem, seval, hs, s5, s1, hneg, hw2]
    refine ih _ (by omega) _ _ ⟨i + 1, rfl, by simp only [go_sem, seval], ?_, rfl, by omega⟩
    simp only [go_sem, seval]; rw [htk]; congr 1; omega
  · have hlt : ¬ i < xss.length := by intro h; have := (dec_lt hlt).2 h; cases this
    obtain rfl : i = xss.length := by omega
    simp only [go_sem, seval, s1]
    rw [List.take_of_length_le (Nat.le_refl _)]
    exact hk
/-- What marking changes: nothing but what the rows lie in. -/
def Outside (v : Value) (vs : List Value) (H H' : AHeap) : Prop := H.size ≤ H'.size ∧ ∀ id, id < H.size → ¬ InF v vs id → H'.get id = H.get id
set_option maxRecDepth 8000 in
theorem markYard_c {lo : Nat} {v : Value} {vs : List Value} {xss : List (List Int)} {k : Int} (h : HSS lo H v vs xss) (hs0 : Small xss) (h0 : 0 ≤ k) (hb : k ≤ 1125899906842624)
    (hk : ∀ H', HSS lo H' v vs (markss k xss) → Outside v vs H H' → Kk (.int .i64 (k + total xss)) H') : callA Try.prog 45 #[.agg #[v], .int .i64 k] H Kk := by
  refine call_go (fn := Try.f45) (rs := [.tmp 4]) [] (by kernel_rfl) rfl rfl follows (by kernel_rfl) ?_
  simp only [go_sem, seval, push_p, pushes_p, size_p, get_p, get_p0, set_p, set_p0]
  refine markIntSS_c (h.keep keep_p) hs0 h0 hb fun G h2 hz hf => ?_
  simp only [go_sem, seval]
  refine hk _ h2 ⟨by rw [hz, size_p]; omega, fun id hi hid => ?_⟩
  rw [hf id hid, keep_p.get id hi]
set_option maxRecDepth 8000 in
theorem markBay_c {lo : Nat} {v : Value} {vs : List Value} {xss : List (List Int)} {k q : Int} (h : HSS lo H v vs xss) (hs0 : Small xss) (h0 : 0 ≤ k) (hb : k ≤ 1125899906842624)
    (hk : ∀ H', HSS lo H' v vs (markss k xss) → Outside v vs H H' → Kk (.int .i64 (k + total xss)) H') : callA Try.prog 46 #[.agg #[.int .i64 q, v], .int .i64 k] H Kk := by
  refine call_go (fn := Try.f46) (rs := [.tmp 4]) [] (by kernel_rfl) rfl rfl follows (by kernel_rfl) ?_
  simp only [go_sem, seval, push_p, pushes_p, size_p, get_p, get_p0, set_p, set_p0]
  refine markIntSS_c (h.keep keep_p) hs0 h0 hb fun G h2 hz hf => ?_
  simp only [go_sem, seval]
  refine hk _ h2 ⟨by rw [hz, size_p]; omega, fun id hi hid => ?_⟩
  rw [hf id hid, keep_p.get id hi]
theorem _root_.Go.Ah.HSS.outside {lo : Nat} {G : AHeap} {v u : Value} {vs us : List Value} {xss : List (List Int)} (h : HSS lo H v vs xss) (ho : Outside u us H G) (hd : Off v vs u us) : HSS lo G v vs xss :=
  h.keepF ho.1 fun id hi => ho.2 id (h.low hi) (hd id hi)
theorem _root_.Go.Ah.At.outside {G : AHeap} {u : Value} {us : List Value} {id : Nat} {o : AObj} (h : At H id o) (ho : Outside u us H G) (hd : ¬ InF u us id) : At G id o := h.of (ho.2 id h.lt hd) ho.1
set_option maxRecDepth 8000 in
theorem markTerminal_c {lo : Nat} {v u : Value} {vs us : List Value} {xss yss : List (List Int)} {k q : Int} (h : HSS lo H v vs xss) (g : HSS lo H u us yss) (ho : Off v vs u us) (hs : Small xss) (hs' : Small yss) (h0 : 0 ≤ k) (hb : k ≤ 1048576)
    (hk : ∀ H', HSS lo H' v vs (markss k xss) → HSS lo H' u us (markss (k + total xss) yss) → H.size ≤ H'.size → (∀ id, id < H.size → ¬ InF v vs id → ¬ InF u us id → H'.get id = H.get id) → Kk (.int .i64 (k + total xss + total yss)) H') :
    callA Try.prog 17 #[.agg #[v, .int .i64 q, u], .int .i64 k] H Kk := by
  have ht := small_total hs
  refine call_go (fn := Try.f17) (rs := [.tmp 4]) [] (by kernel_rfl) rfl rfl follows (by kernel_rfl) ?_
  simp only [go_sem, seval, push_p, pushes_p, size_p, get_p, get_p0, set_p, set_p0]
  refine markYard_c (h.keep keep_p) hs h0 (by omega) fun G h2 o2 => ?_
  have e0 := (At.p0 (H := H) (x := .rw 3 [v, .int .i64 q, u]) (l := [])).outside o2 fun hi => by have := h.low hi; omega
  have g2 := (g.keep keep_p).outside o2 fun id h1 h2 => ho id h2 h1
  simp only [go_sem, seval, e0.get]
  refine markBay_c g2 hs' (by omega) (by omega) fun G2 g3 o3 => ?_
  simp only [go_sem, seval]
  have hz := o2.1
  have hz3 := o3.1
  rw [size_p] at hz
  refine hk _ (h2.outside o3 fun id h1 h2 => ho id h1 h2) g3 (by omega) fun id hi n1 n2 => ?_
  rw [o3.2 id (by omega) n2, o2.2 id (by rw [size_p]; omega) n1, keep_p.get id hi]
set_option maxRecDepth 8000 in
theorem heldYard_c {v : Value} {vs : List Value} {xss : List (List Int)} {k : Int} (h : IntsS H v vs (markss k xss)) (hs0 : Small xss) (h0 : 0 ≤ k) (hb : k ≤ 1125899906842624)
    (hk : ∀ H', AKeep H H' → Kk (.int .i64 (k + total xss)) H') : callA Try.prog 47 #[.agg #[v], .int .i64 k] H Kk := by
  have hneg : decide (k + (total xss : Int) < 0) = false := by simp; omega
  refine call_go (fn := Try.f47) (rs := [.tmp 4]) [] (by kernel_rfl) rfl rfl follows (by kernel_rfl) ?_
  simp only [go_sem, seval, push_p, pushes_p, size_p, get_p, get_p0, set_p, set_p0]
  refine heldIntSS_c (h.keep keep_p) hs0 h0 hb ?_
  simp only [go_sem, seval, hneg]
  exact hk _ keep_p
set_option maxRecDepth 8000 in
theorem heldBay_c {v : Value} {vs : List Value} {xss : List (List Int)} {k q : Int} (h : IntsS H v vs (markss k xss)) (hs0 : Small xss) (h0 : 0 ≤ k) (hb : k ≤ 1125899906842624)
    (hk : ∀ H', AKeep H H' → Kk (.int .i64 (k + total xss)) H') : callA Try.prog 48 #[.agg #[.int .i64 q, v], .int .i64 k] H Kk := by
  have hneg : decide (k + (total xss : Int) < 0) = false := by simp; omega
  refine call_go (fn := Try.f48) (rs := [.tmp 4]) [] (by kernel_rfl) rfl rfl follows (by kernel_rfl) ?_
  simp only [go_sem, seval, push_p, pushes_p, size_p, get_p, get_p0, set_p, set_p0]
  refine heldIntSS_c (h.keep keep_p) hs0 h0 hb ?_
  simp only [go_sem, seval, hneg]
  exact hk _ keep_p
set_option maxRecDepth 8000 in
theorem heldTerminal_c {v u : Value} {vs us : List Value} {xss yss : List (List Int)} {k q : Int} (h : IntsS H v vs (markss k xss)) (g : IntsS H u us (markss (k + total xss) yss)) (hs : Small xss) (hs' : Small yss) (h0 : 0 ≤ k) (hb : k ≤ 1048576)
    (hk : ∀ H', AKeep H H' → Kk (.int .i64 (k + total xss + total yss)) H') : callA Try.prog 18 #[.agg #[v, .int .i64 q, u], .int .i64 k] H Kk := by
  have ht := small_total hs
  have hneg : decide (k + (total xss : Int) < 0) = false := by simp; omega
  have hneg2 : decide (k + (total xss : Int) + (total yss : Int) < 0) = false := by simp; omega
  refine call_go (fn := Try.f18) (rs := [.tmp 4]) [] (by kernel_rfl) rfl rfl follows (by kernel_rfl) ?_
  simp only [go_sem, seval, push_p, pushes_p, size_p, get_p, get_p0, set_p, set_p0]
  refine heldYard_c (h.keep keep_p) hs h0 (by omega) fun G k2 => ?_
  have e0 := (At.p0 (H := H) (x := .rw 3 [v, .int .i64 q, u]) (l := [])).keep k2
  simp only [go_sem, seval, e0.get, hneg]
  refine heldBay_c ((g.keep keep_p).keep k2) hs' (by omega) (by omega) fun G2 k3 => ?_
  simp only [go_sem, seval, hneg2]
  exact hk _ (k2.p1.trans k3)
end Go.Ah.A


namespace Go.Ah.A
open Go Go.Ah Go.Proofs
set_option linter.unusedSimpArgs false
variable {H : AHeap}
theorem rowsOk_rows {m : Int} : ∀ {xss : List (List Int)} {seen : List Int}, (rowsOk m seen xss).isSome = true → ∀ i, i < xss.length → ((nth xss i []).length : Int) ≤ m
  | [], _, _, i, hi => by simp at hi
  | s :: r, seen, h, i, hi => by
    unfold rowsOk at h
    split at h
    · rename_i hm
      cases i with
      | zero => exact hm
      | succ i =>
        cases h2 : rowOk seen s with
        | none => rw [h2] at h; cases h
        | some s2 =>
          rw [h2] at h
          exact rowsOk_rows h i (by simpa using hi)
    · cases h
theorem small_valid {y : List (List Int)} {q : Int} {s : List (List Int)} (h : validTerminal y q s = true) : Small y ∧ Small s := by
  unfold validTerminal validYard validBay at h
  simp only [Bool.and_eq_true, decide_eq_true_eq] at h
  obtain ⟨⟨h1, h2⟩, ⟨h3, h4, h5⟩, _⟩ := h
  exact ⟨⟨by omega, fun i hi => by have := rowsOk_rows h2 i hi; omega⟩, ⟨by omega, fun i hi => by have := rowsOk_rows h5 i hi; omega⟩⟩
theorem small_nil : Small [] := ⟨by simp, fun i hi => by simp at hi⟩
theorem mk_valid {y : List (List Int)} {q : Int} {s : List (List Int)} {k b t : Int} : mkP y q s k b t = MK.no ∨ ((mkP y q s k b t).ok = true ∧ validTerminal (mkP y q s k b t).y (mkP y q s k b t).q (mkP y q s k b t).s = true) := by
  have fin : ∀ y q s a, mkFin y q s a = MK.no ∨ ((mkFin y q s a).ok = true ∧ validTerminal (mkFin y q s a).y (mkFin y q s a).q (mkFin y q s a).s = true) := by
    intro y q s a
    unfold mkFin
    split
    · rename_i h; exact .inr ⟨rfl, h⟩
    · exact .inl rfl
  unfold mkP
  split
  · split
    · exact .inl rfl
    · exact fin _ _ _ _
  · split
    · split
      · exact .inl rfl
      · exact fin _ _ _ _
    · split
      · split
        · exact .inl rfl
        · exact fin _ _ _ _
      · exact .inl rfl
theorem small_mk {y : List (List Int)} {q : Int} {s : List (List Int)} {k b t : Int} : Small (mkP y q s k b t).y ∧ Small (mkP y q s k b t).s := by
  rcases mk_valid (y := y) (q := q) (s := s) (k := k) (b := b) (t := t) with h | ⟨_, h⟩
  · rw [h]; exact ⟨small_nil, small_nil⟩
  · exact small_valid h
theorem small_move {y : List (List Int)} {q : Int} {s : List (List Int)} {k b t : Int} : Small (moveP y q s k b t).y ∧ Small (moveP y q s k b t).s := by
  unfold moveP
  split
  · exact small_mk
  · exact ⟨small_nil, small_nil⟩
set_option maxRecDepth 8000 in
set_option maxHeartbeats 2000000 in
theorem law_MakeOrder {as0 as1 : List Value} (r0 : Reads H [.sl 1 [.sl 1 [.int .i64]], .int .i64, .sl 1 [.sl 1 [.int .i64]]] as0) (r1 : Reads H [.int .i64, .int .i64, .int .i64] as1) :
    callA Try.prog 4 #[.agg (List.toArray as0), .agg (List.toArray as1)] H fun r _ => r = .bool true := by
  obtain ⟨v, vs, xss, cs, rfl, h, -, r0⟩ := reads_intss r0
  obtain ⟨q, cs, rfl, -, r0⟩ := reads_int r0
  obtain ⟨u, us, yss, cs, rfl, g, -, r0⟩ := reads_intss r0
  obtain rfl := reads_nil r0
  obtain ⟨k, cs, rfl, -, r1⟩ := reads_int r1
  obtain ⟨b, cs, rfl, -, r1⟩ := reads_int r1
  obtain ⟨t, cs, rfl, -, r1⟩ := reads_int r1
  obtain rfl := reads_nil r1
  clear r0 r1
  refine call_go (fn := Try.f4) (rs := [.tmp 4]) [] (by kernel_rfl) rfl rfl follows (by kernel_rfl) ?_
  simp only [go_sem, seval, push_p, pushes_p, size_p, get_p, get_p0, set_p, set_p0]
  have e0 : At (pushes H [.rw 3 [v, .int .i64 q, u], .rw 3 [.int .i64 k, .int .i64 b, .int .i64 t]]) _ _ := At.p0
  have e1 : At (pushes H [.rw 3 [v, .int .i64 q, u], .rw 3 [.int .i64 k, .int .i64 b, .int .i64 t]]) _ _ := At.p 1 _ rfl
  refine szTerminal_c (h.keep keep_p) (g.keep keep_p) fun r H1 k1 hr => ?_
  replace e0 := e0.keep k1
  replace e1 := e1.keep k1
  have kH := k1.p1
  by_cases hneg : r < 0
  · have hneg' : decide (r < 0) = true := by simpa using hneg
    simp only [go_sem, seval, hneg']
  have hneg' : decide (r < 0) = false := by simpa using hneg
  obtain ⟨hs, hs'⟩ := hr (by omega)
  simp only [go_sem, seval, hneg', e0.get]
  refine toTerminal_c (h.keep kH) (g.keep kH) hs hs' fun v1 vs1 u1 us1 H2 k2 h2 g2 => ?_
  replace e0 := e0.keep k2
  replace e1 := e1.keep k2
  simp only [go_sem, seval, e1.get]
  refine ⟨callCond_keep k2, toOrder_c fun H3 k3 => ?_⟩
  replace e0 := e0.keep k3
  replace e1 := e1.keep k3
  replace h2 := h2.keep k3
  replace g2 := g2.keep k3
  simp only [go_sem, seval]
  refine ⟨callCond_keep k3, spMakeOrder_c h2 g2 hs hs' fun wv wvs wu wus H4 k4 W W' WO => ?_⟩
  have w3 := fun id hi => W.low (id := id) hi
  have w4 := fun id hi => W'.low (id := id) hi
  replace e0 := e0.keep k4
  replace e1 := e1.keep k4
  have kH := ((kH.trans k2).trans k3).trans k4
  obtain ⟨R, hR⟩ : ∃ R, moveP xss q yss k b t = R := ⟨_, rfl⟩
  obtain ⟨sy, ss⟩ := small_move (y := xss) (q := q) (s := yss) (k := k) (b := b) (t := t)
  rw [hR] at W W' sy ss
  obtain ⟨a1, m1, c1, rfl⟩ := W.top.slice
  obtain ⟨a1', m1', c1', rfl⟩ := W'.top.slice
  simp only [go_sem, seval, get_set_same, get_set_ne, Nat.add_left_cancel_iff, push_set, hR, (e0.push _).get]
  have e2 := At.new (H := H4) (.rw 3 [.slice a1 m1 c1, .int .i64 R.q, .slice a1' m1' c1'])
  replace e0 := e0.keep (AKeep.push _ (.rw 3 [.slice a1 m1 c1, .int .i64 R.q, .slice a1' m1' c1']))
  replace e1 := e1.keep (AKeep.push _ (.rw 3 [.slice a1 m1 c1, .int .i64 R.q, .slice a1' m1' c1']))
  replace W := W.keep (AKeep.push _ (.rw 3 [.slice a1 m1 c1, .int .i64 R.q, .slice a1' m1' c1']))
  replace W' := W'.keep (AKeep.push _ (.rw 3 [.slice a1 m1 c1, .int .i64 R.q, .slice a1' m1' c1']))
  have kH := kH.trans (AKeep.push _ (.rw 3 [.slice a1 m1 c1, .int .i64 R.q, .slice a1' m1' c1']))
  refine ⟨callCond_keep k4, toTerminal_h (h.keep kH) (g.keep kH) hs hs' fun xv xvs xu xus H5 k5 X X' XO => ?_⟩
  replace e0 := e0.keep k5
  replace e1 := e1.keep k5
  replace e2 := e2.keep k5
  replace W := W.keep k5
  replace W' := W'.keep k5
  have kH := kH.trans k5
  obtain ⟨a2, m2, c2, rfl⟩ := X.top.slice
  obtain ⟨a2', m2', c2', rfl⟩ := X'.top.slice
  have e3 := At.new (H := H5) (.rw 3 [.slice a2 m2 c2, .int .i64 q, .slice a2' m2' c2'])
  simp only [go_sem, seval, get_set_same, get_set_ne, Nat.add_left_cancel_iff, push_set, (e1.push _).get]
  have x3 := fun id hi => X.low (id := id) hi
  have x4 := fun id hi => X'.low (id := id) hi
  replace e0 := e0.keep (AKeep.push _ (.rw 3 [.slice a2 m2 c2, .int .i64 q, .slice a2' m2' c2']))
  replace e1 := e1.keep (AKeep.push _ (.rw 3 [.slice a2 m2 c2, .int .i64 q, .slice a2' m2' c2']))
  replace e2 := e2.keep (AKeep.push _ (.rw 3 [.slice a2 m2 c2, .int .i64 q, .slice a2' m2' c2']))
  replace W := W.keep (AKeep.push _ (.rw 3 [.slice a2 m2 c2, .int .i64 q, .slice a2' m2' c2']))
  replace W' := W'.keep (AKeep.push _ (.rw 3 [.slice a2 m2 c2, .int .i64 q, .slice a2' m2' c2']))
  replace X := X.keep (AKeep.push _ (.rw 3 [.slice a2 m2 c2, .int .i64 q, .slice a2' m2' c2']))
  replace X' := X'.keep (AKeep.push _ (.rw 3 [.slice a2 m2 c2, .int .i64 q, .slice a2' m2' c2']))
  have kH := kH.trans (AKeep.push _ (.rw 3 [.slice a2 m2 c2, .int .i64 q, .slice a2' m2' c2']))
  refine toOrder_c fun H6 k6 => ?_
  replace e0 := e0.keep k6
  replace e1 := e1.keep k6
  replace e2 := e2.keep k6
  replace e3 := e3.keep k6
  replace W := W.keep k6
  replace W' := W'.keep k6
  replace X := X.keep k6
  replace X' := X'.keep k6
  simp only [go_sem, seval]
  refine ⟨callCond_keep k6, imMakeOrder_c X.intss X'.intss hs hs' fun gv gvs gu gus H7 k7 Y Y' YO => ?_⟩
  replace e0 := e0.keep k7
  replace e1 := e1.keep k7
  replace e2 := e2.keep k7
  replace e3 := e3.keep k7
  replace W := W.keep k7
  replace W' := W'.keep k7
  replace X := X.keep k7
  replace X' := X'.keep k7
  rw [hR] at Y Y'
  obtain ⟨a3, m3, c3, rfl⟩ := Y.top.slice
  obtain ⟨a3', m3', c3', rfl⟩ := Y'.top.slice
  have e4 := At.new (H := H7) (.rw 3 [.slice a3 m3 c3, .int .i64 R.q, .slice a3' m3' c3'])
  have y3 := fun id hi => Y.low (id := id) hi
  have y4 := fun id hi => Y'.low (id := id) hi
  have kH := (kH.trans k6).trans k7
  simp only [go_sem, seval, get_set_same, get_set_ne, Nat.add_left_cancel_iff, push_set, hR, (e2.push _).get]
  replace e0 := e0.keep (AKeep.push _ (.rw 3 [.slice a3 m3 c3, .int .i64 R.q, .slice a3' m3' c3']))
  replace e1 := e1.keep (AKeep.push _ (.rw 3 [.slice a3 m3 c3, .int .i64 R.q, .slice a3' m3' c3']))
  replace e2 := e2.keep (AKeep.push _ (.rw 3 [.slice a3 m3 c3, .int .i64 R.q, .slice a3' m3' c3']))
  replace e3 := e3.keep (AKeep.push _ (.rw 3 [.slice a3 m3 c3, .int .i64 R.q, .slice a3' m3' c3']))
  replace W := W.keep (AKeep.push _ (.rw 3 [.slice a3 m3 c3, .int .i64 R.q, .slice a3' m3' c3']))
  replace W' := W'.keep (AKeep.push _ (.rw 3 [.slice a3 m3 c3, .int .i64 R.q, .slice a3' m3' c3']))
  replace X := X.keep (AKeep.push _ (.rw 3 [.slice a3 m3 c3, .int .i64 R.q, .slice a3' m3' c3']))
  replace X' := X'.keep (AKeep.push _ (.rw 3 [.slice a3 m3 c3, .int .i64 R.q, .slice a3' m3' c3']))
  replace Y := Y.keep (AKeep.push _ (.rw 3 [.slice a3 m3 c3, .int .i64 R.q, .slice a3' m3' c3']))
  replace Y' := Y'.keep (AKeep.push _ (.rw 3 [.slice a3 m3 c3, .int .i64 R.q, .slice a3' m3' c3']))
  have kH := kH.trans (AKeep.push _ (.rw 3 [.slice a3 m3 c3, .int .i64 R.q, .slice a3' m3' c3']))
  refine ⟨callCond_keep k7, eqTerminal_c Y.intss Y'.intss W.intss W'.intss fun H8 k8 => ?_⟩
  replace e0 := e0.keep k8
  replace e1 := e1.keep k8
  replace e2 := e2.keep k8
  replace e3 := e3.keep k8
  replace e4 := e4.keep k8
  replace W := W.keep k8
  replace W' := W'.keep k8
  replace X := X.keep k8
  replace X' := X'.keep k8
  replace Y := Y.keep k8
  replace Y' := Y'.keep k8
  have kH := kH.trans k8
  simp only [go_sem, seval, e0.get, e3.get]
  refine toTerminal_c (h.keep kH) (g.keep kH) hs hs' fun v3 vs3 u3 us3 H9 k9 h9 g9 => ?_
  replace e0 := e0.keep k9
  replace e1 := e1.keep k9
  replace e2 := e2.keep k9
  replace e3 := e3.keep k9
  replace e4 := e4.keep k9
  replace W := W.keep k9
  replace W' := W'.keep k9
  replace X := X.keep k9
  replace X' := X'.keep k9
  replace Y := Y.keep k9
  replace Y' := Y'.keep k9
  simp only [go_sem, seval]
  refine ⟨callCond_keep k9, eqTerminal_c X.intss X'.intss h9 g9 fun H10 k10 => ?_⟩
  replace e0 := e0.keep k10
  replace e1 := e1.keep k10
  replace e2 := e2.keep k10
  replace e3 := e3.keep k10
  replace e4 := e4.keep k10
  replace W := W.keep k10
  replace W' := W'.keep k10
  replace X := X.keep k10
  replace X' := X'.keep k10
  replace Y := Y.keep k10
  replace Y' := Y'.keep k10
  have kH := (kH.trans k9).trans k10
  simp only [go_sem, seval, e3.get]
  refine ⟨callCond_keep k10, ?_⟩
  have z1 := k1.size; have z2 := k2.size; have z3 := k3.size; have z4 := k4.size; have z5 := k5.size; have z6 := k6.size; have z7 := k7.size; have z8 := k8.size; have z9 := k9.size; have z10 := k10.size
  simp only [size_p, size_push, List.length_cons, List.length_nil] at z1 z2 z3 z4 z5 z6 z7 z8 z9 z10
  have lx := fun id hi => X.above (id := id) hi
  have lx' := fun id hi => X'.above (id := id) hi
  have ly := fun id hi => Y.above (id := id) hi
  have ly' := fun id hi => Y'.above (id := id) hi
  simp only [size_push] at lx lx'
  refine markTerminal_c X X' XO hs hs' (by omega) (by omega) fun H11 _ _ zs hf => ?_
  have out : ∀ id, id < H10.size → id ≤ H4.size ∨ H5.size ≤ id → H11.get id = H10.get id := fun id h1 h2 => hf id h1 (fun e => by have := lx id e; have := x3 id e; omega) (fun e => by have := lx' id e; have := x4 id e; omega)
  replace e0 := e0.of (out _ e0.lt (by omega)) zs
  replace e1 := e1.of (out _ e1.lt (by omega)) zs
  replace e2 := e2.of (out _ e2.lt (by omega)) zs
  replace e3 := e3.of (out _ e3.lt (by omega)) zs
  replace e4 := e4.of (out _ e4.lt (by omega)) zs
  replace kH : AKeep H H11 := ⟨by have := kH.size; omega, fun id hi => by rw [out id (by have := kH.size; omega) (by omega), kH.get id hi]⟩
  replace W := W.keepF zs fun id hi => out id (W.low hi) (by have := w3 id hi; omega)
  replace W' := W'.keepF zs fun id hi => out id (W'.low hi) (by have := w4 id hi; omega)
  replace Y := Y.keepF zs fun id hi => out id (Y.low hi) (by have := ly id hi; omega)
  replace Y' := Y'.keepF zs fun id hi => out id (Y'.low hi) (by have := ly' id hi; omega)
  have hp : decide ((1 : Int) + (total xss : Int) + (total yss : Int) < 0) = false := by simp; omega
  simp only [go_sem, seval, hp, e2.get, e4.get]
  refine eqTerminal_c Y.intss Y'.intss W.intss W'.intss fun H12 k12 => ?_
  replace e0 := e0.keep k12
  replace e1 := e1.keep k12
  replace e2 := e2.keep k12
  replace e3 := e3.keep k12
  replace e4 := e4.keep k12
  replace W := W.keep k12
  replace W' := W'.keep k12
  replace Y := Y.keep k12
  replace Y' := Y'.keep k12
  have kH := kH.trans k12
  have z12 := k12.size
  simp only [go_sem, seval, e4.get]
  refine markTerminal_c Y Y' YO sy ss (by omega) (by omega) fun H13 Y2 Y2' zs2 hf2 => ?_
  have out2 : ∀ id, id < H12.size → id < H6.size ∨ H7.size ≤ id → H13.get id = H12.get id := fun id h1 h2 => hf2 id h1 (fun e => by have := ly id e; have := y3 id e; omega) (fun e => by have := ly' id e; have := y4 id e; omega)
  replace e0 := e0.of (out2 _ e0.lt (by omega)) zs2
  replace e1 := e1.of (out2 _ e1.lt (by omega)) zs2
  replace e2 := e2.of (out2 _ e2.lt (by omega)) zs2
  replace e4 := e4.of (out2 _ e4.lt (by omega)) zs2
  replace kH : AKeep H H13 := ⟨by have := kH.size; omega, fun id hi => by rw [out2 id (by have := kH.size; omega) (by omega), kH.get id hi]⟩
  replace W := W.keepF zs2 fun id hi => out2 id (W.low hi) (by have := w3 id hi; omega)
  replace W' := W'.keepF zs2 fun id hi => out2 id (W'.low hi) (by have := w4 id hi; omega)
  simp only [go_sem, seval, e4.get]
  refine heldTerminal_c Y2.intss Y2'.intss sy ss (by omega) (by omega) fun H14 k14 => ?_
  replace e0 := e0.keep k14
  replace e1 := e1.keep k14
  replace e2 := e2.keep k14
  replace e4 := e4.keep k14
  replace W := W.keep k14
  replace W' := W'.keep k14
  replace Y2 := Y2.keep k14
  replace Y2' := Y2'.keep k14
  have kH := kH.trans k14
  have hp2 : decide ((1 : Int) + (total R.y : Int) + (total R.s : Int) < 0) = false := by simp; omega
  simp only [go_sem, seval, hp2, e0.get]
  refine toTerminal_c (h.keep kH) (g.keep kH) hs hs' fun v4 vs4 u4 us4 H15 k15 h15 g15 => ?_
  replace e0 := e0.keep k15
  replace e1 := e1.keep k15
  replace e2 := e2.keep k15
  replace e4 := e4.keep k15
  replace W := W.keep k15
  replace W' := W'.keep k15
  replace Y2 := Y2.keep k15
  replace Y2' := Y2'.keep k15
  simp only [go_sem, seval, e1.get]
  refine ⟨callCond_keep k15, toOrder_c fun H16 k16 => ?_⟩
  replace e0 := e0.keep k16
  replace e1 := e1.keep k16
  replace e2 := e2.keep k16
  replace e4 := e4.keep k16
  replace W := W.keep k16
  replace W' := W'.keep k16
  replace Y2 := Y2.keep k16
  replace Y2' := Y2'.keep k16
  replace h15 := h15.keep k16
  replace g15 := g15.keep k16
  simp only [go_sem, seval]
  refine ⟨callCond_keep k16, imMakeOrder_c h15 g15 hs hs' fun hv hvs hu hus H17 k17 Z Z' ZO => ?_⟩
  replace e0 := e0.keep k17
  replace e1 := e1.keep k17
  replace e2 := e2.keep k17
  replace e4 := e4.keep k17
  replace W := W.keep k17
  replace W' := W'.keep k17
  replace Y2 := Y2.keep k17
  replace Y2' := Y2'.keep k17
  rw [hR] at Z Z'
  obtain ⟨a4, m4, c4, rfl⟩ := Z.top.slice
  obtain ⟨a4', m4', c4', rfl⟩ := Z'.top.slice
  simp only [go_sem, seval, get_set_same, get_set_ne, Nat.add_left_cancel_iff, push_set, hR, (e2.push _).get, (At.new _).get]
  replace e0 := e0.keep (AKeep.push _ (.rw 3 [.slice a4 m4 c4, .int .i64 R.q, .slice a4' m4' c4']))
  replace e1 := e1.keep (AKeep.push _ (.rw 3 [.slice a4 m4 c4, .int .i64 R.q, .slice a4' m4' c4']))
  replace e2 := e2.keep (AKeep.push _ (.rw 3 [.slice a4 m4 c4, .int .i64 R.q, .slice a4' m4' c4']))
  replace e4 := e4.keep (AKeep.push _ (.rw 3 [.slice a4 m4 c4, .int .i64 R.q, .slice a4' m4' c4']))
  replace W := W.keep (AKeep.push _ (.rw 3 [.slice a4 m4 c4, .int .i64 R.q, .slice a4' m4' c4']))
  replace W' := W'.keep (AKeep.push _ (.rw 3 [.slice a4 m4 c4, .int .i64 R.q, .slice a4' m4' c4']))
  replace Y2 := Y2.keep (AKeep.push _ (.rw 3 [.slice a4 m4 c4, .int .i64 R.q, .slice a4' m4' c4']))
  replace Y2' := Y2'.keep (AKeep.push _ (.rw 3 [.slice a4 m4 c4, .int .i64 R.q, .slice a4' m4' c4']))
  replace Z := Z.keep (AKeep.push _ (.rw 3 [.slice a4 m4 c4, .int .i64 R.q, .slice a4' m4' c4']))
  replace Z' := Z'.keep (AKeep.push _ (.rw 3 [.slice a4 m4 c4, .int .i64 R.q, .slice a4' m4' c4']))
  refine ⟨callCond_keep k17, eqTerminal_c Z.intss Z'.intss W.intss W'.intss fun H18 k18 => ?_⟩
  replace e4 := e4.keep k18
  replace Y2 := Y2.keep k18
  replace Y2' := Y2'.keep k18
  simp only [go_sem, seval, e4.get]
  refine heldTerminal_c Y2.intss Y2'.intss sy ss (by omega) (by omega) fun H19 k19 => ?_
  simp only [go_sem, seval, hp2]
end Go.Ah.A


/- Slices of structs of numbers, texts and bools. -/
namespace Go.Ah
variable {P : Program} {H G G' : AHeap} {α : Type}
/-- How a datum lies in cells. -/
class Enc (α : Type) where
  sz : Nat
  enc : α → List Value
  len : ∀ a, (enc a).length = sz
  one : ∀ a, (enc a).all (·.oneCell') = true
  pos : 0 < sz
  d : α
instance encInt : Enc Int := ⟨1, fun n => [.int .i64 n], fun _ => rfl, fun _ => rfl, Nat.one_pos, 0⟩
instance encStr : Enc ByteArray := ⟨1, fun s => [.string s], fun _ => rfl, fun _ => rfl, Nat.one_pos, ⟨#[]⟩⟩
instance encBool : Enc Bool := ⟨1, fun b => [.bool b], fun _ => rfl, fun _ => rfl, Nat.one_pos, false⟩
instance encProd {α β : Type} [Enc α] [Enc β] : Enc (α × β) := ⟨Enc.sz α + Enc.sz β, fun x => Enc.enc x.1 ++ Enc.enc x.2, fun x => by rw [List.length_append, Enc.len, Enc.len], fun x => by rw [List.all_append, Enc.one, Enc.one]; rfl, Nat.add_pos_left Enc.pos _, (Enc.d, Enc.d)⟩
@[go_sem] theorem enc_int (n : Int) : Enc.enc n = [Value.int .i64 n] := (rfl)
@[go_sem] theorem enc_str (s : ByteArray) : Enc.enc s = [Value.string s] := (rfl)
@[go_sem] theorem enc_bool (b : Bool) : Enc.enc b = [Value.bool b] := (rfl)
@[go_sem] theorem enc_prod {α β : Type} [Enc α] [Enc β] (x : α × β) : Enc.enc x = Enc.enc x.1 ++ Enc.enc x.2 := (rfl)
def encs [Enc α] (xs : List α) : List Value := xs.flatMap Enc.enc
variable [Enc α] {xs : List α} {v : Value} {i j : Nat}
@[simp] theorem encs_nil : encs ([] : List α) = [] := rfl
@[simp] theorem encs_cons {x : α} : encs (x :: xs) = Enc.enc x ++ encs xs := rfl
theorem encs_len (xs : List α) : (encs xs).length = xs.length * Enc.sz α := by
  induction xs with
  | nil => simp
  | cons x r ih => rw [encs_cons, List.length_append, ih, Enc.len, List.length_cons, Nat.add_mul]; omega
theorem encs_app (xs ys : List α) : encs (xs ++ ys) = encs xs ++ encs ys := by simp [encs]
theorem encs_one_cell (xs : List α) : (encs xs).all (·.oneCell') = true := by
  induction xs with
  | nil => rfl
  | cons x r ih => rw [encs_cons, List.all_append, ih, Enc.one]; rfl
theorem encs_get : ∀ (xs : List α) (i j : Nat), i < xs.length → j < Enc.sz α → (encs xs).getD (i * Enc.sz α + j) undef = (Enc.enc (nth xs i Enc.d)).getD j undef
  | [], i, j, hi, _ => by simp at hi
  | x :: r, 0, j, _, hj => by
    rw [encs_cons, Nat.zero_mul, Nat.zero_add]
    simp only [List.getD_eq_getElem?_getD, nth, List.getElem?_cons_zero, Option.getD_some]
    rw [List.getElem?_append_left (by rw [Enc.len]; exact hj)]
  | x :: r, i + 1, j, hi, hj => by
    have ih := encs_get r i j (by simpa using hi) hj
    rw [encs_cons]
    simp only [List.getD_eq_getElem?_getD, nth, List.getElem?_cons_succ] at ih ⊢
    have h1 : (i + 1) * Enc.sz α = Enc.sz α + i * Enc.sz α := by rw [Nat.add_mul]; omega
    rw [List.getElem?_append_right (by rw [Enc.len, h1]; omega), Enc.len, h1, show Enc.sz α + i * Enc.sz α + j - Enc.sz α = i * Enc.sz α + j by omega]
    exact ih
theorem encs_part : ∀ (xs : List α) (i : Nat), i < xs.length → ((encs xs).drop (i * Enc.sz α)).take (Enc.sz α) = Enc.enc (nth xs i Enc.d)
  | [], i, hi => by simp at hi
  | x :: r, 0, _ => by
    rw [encs_cons, Nat.zero_mul, List.drop_zero]
    have h := Enc.len x
    show List.take _ _ = Enc.enc x
    rw [← h, List.take_left']
    rfl
  | x :: r, i + 1, hi => by
    have ih := encs_part r i (by simpa using hi)
    have h1 : (i + 1) * Enc.sz α = (Enc.enc x).length + i * Enc.sz α := by rw [Enc.len, Nat.add_mul]; omega
    rw [encs_cons, h1, List.drop_append]
    have : (Enc.enc x).drop ((Enc.enc x).length + i * Enc.sz α) = [] := List.drop_eq_nil_of_le (by omega)
    rw [this, List.nil_append, show (Enc.enc x).length + i * Enc.sz α - (Enc.enc x).length = i * Enc.sz α by omega]
    exact ih
theorem encs_set : ∀ (xs : List α) (i j : Nat) (x : Value) (a : α), i < xs.length → j < Enc.sz α → Enc.enc a = (Enc.enc (nth xs i Enc.d)).set j x → (encs xs).set (i * Enc.sz α + j) x = encs (xs.set i a)
  | [], i, j, x, a, hi, _, _ => by simp at hi
  | y :: r, 0, j, x, a, _, hj, he => by
    rw [encs_cons, Nat.zero_mul, Nat.zero_add, List.set_cons_zero, encs_cons, he, List.set_append_left _ _ (by rw [Enc.len]; exact hj)]
    rfl
  | y :: r, i + 1, j, x, a, hi, hj, he => by
    have ih := encs_set r i j x a (by simpa using hi) hj he
    have h1 : (i + 1) * Enc.sz α = Enc.sz α + i * Enc.sz α := by rw [Nat.add_mul]; omega
    rw [encs_cons, List.set_append_right _ _ (by rw [Enc.len, h1]; omega), Enc.len, h1, show Enc.sz α + i * Enc.sz α + j - Enc.sz α = i * Enc.sz α + j by omega, ih]
    rfl
/-- v is a slice that reads xs. -/
def Fl (H : AHeap) (v : Value) (xs : List α) : Prop := Row H (Enc.sz α) v xs.length (encs xs)
/-- v is a slice of our own that holds xs. -/
def FlH (lo : Nat) (H : AHeap) (v : Value) (xs : List α) : Prop := Hd lo H (Enc.sz α) v xs.length (encs xs)
theorem FlH.fl {lo : Nat} (h : FlH lo H v xs) : Fl H v xs := Hd.row h
theorem Fl.keep (h : Fl H v xs) (hk : AKeep H G) : Fl G v xs := Row.keep h hk
theorem FlH.keep {lo : Nat} (h : FlH lo H v xs) (hk : AKeep H G) : FlH lo G v xs := Hd.keep h hk
theorem FlH.keepF {lo : Nat} (h : FlH lo H v xs) (hs : H.size ≤ G.size) (hf : ∀ id, idOf v = some id → G.get id = H.get id) : FlH lo G v xs := Hd.keepF h hs hf
theorem FlH.le {lo lo' : Nat} (h : FlH lo H v xs) (hl : lo' ≤ lo) : FlH lo' H v xs := Hd.le h hl
theorem FlH.above {lo : Nat} (h : FlH lo H v xs) {id : Nat} (e : idOf v = some id) : lo ≤ id := Hd.above h id e
theorem FlH.low {lo : Nat} (h : FlH lo H v xs) {id : Nat} (e : idOf v = some id) : id < H.size := Hd.low h id e
theorem FlH.setL {lo k : Nat} {o : AObj} (h : FlH lo H v xs) (hk : k < lo) : FlH lo (H.set k o) v xs := h.keepF (by rw [size_set]; exact Nat.le_refl _) fun id e => get_set_ne _ _ _ _ (by have := h.above e; omega)
theorem Fl.slice (h : Fl H v xs) : ∃ a m c, v = .slice a m c := Row.slice h
theorem FlH.slice {lo : Nat} (h : FlH lo H v xs) : ∃ a m c, v = .slice a m c := Hd.slice h
theorem Fl.lt (h : Fl H v xs) : xs.length < big := h.1
theorem Fl.nil : Fl H (.slice none 0 0) ([] : List α) := Row.nil
theorem FlH.nil {lo : Nat} : FlH lo H (.slice none 0 0) ([] : List α) := ⟨by unfold big; simp, by simp, .inl ⟨rfl, rfl⟩⟩
theorem FlH.lit {sz : Nat} (hs : sz = Enc.sz α) : FlH H.size (H.push (.rw sz [])) (.slice (some ⟨H.size, 0, none⟩) 0 0) ([] : List α) := by
  subst hs
  exact Hd.of (.inr own_lit)
theorem fl_len {t : TypeId} {Kk : Value → AHeap → Prop} (h : Fl H v xs) (hd : isSliceD (P.underlying t) = true) {G : AHeap} : aBuiltin P G .len [t] [v] Kk = Kk (.int .i64 xs.length) G := row_len h hd
theorem fl_index {t : TypeId} {n : Nat} {K : Value → Prop} {kd : IntKind} (h : Fl H v xs) (hn : Enc.sz α = n) (hs : elemSz P t = some n) (hi : i < xs.length) : aIndexAddr P t v (.int kd i) K = K (elemPtr v (i * n)) := by
  subst hn
  rw [row_index h hs]
  simp; omega
theorem Fl.fit (xs : List α) (hi : i < xs.length) : i * Enc.sz α + Enc.sz α ≤ (encs xs).length := by
  rw [encs_len]
  have := Nat.mul_le_mul_right (Enc.sz α) hi
  rw [Nat.succ_mul] at this
  exact this
theorem fl_load {t : TypeId} {n : Nat} {K : Value → Prop} (h : Fl H v xs) (hn : Enc.sz α = n) (ht : tVar P t = some (n, true)) (hi : i < xs.length) : aLoad P H t (elemPtr v (i * n)) K = K (.agg (Enc.enc (nth xs i Enc.d)).toArray) := by
  subst hn
  rw [row_loadA h ht Enc.pos (Fl.fit xs hi), encs_part xs i hi]
theorem fl_loadf {t : TypeId} {n : Nat} {K : Value → Prop} (h : Fl H v xs) (hn : Enc.sz α = n) (ht : tVar P t = some (1, false)) (hi : i < xs.length) (hj : j < n) : aLoad P H t (elemPtr v (i * n + j)) K = K ((Enc.enc (nth xs i Enc.d)).getD j undef) := by
  subst hn
  have := Fl.fit xs hi
  rw [row_load h ht (by omega), encs_get xs i j hi hj]
theorem fl_load0 {t : TypeId} {n : Nat} {K : Value → Prop} (h : Fl H v xs) (hn : Enc.sz α = n) (ht : tVar P t = some (1, false)) (hi : i < xs.length) : aLoad P H t (elemPtr v (i * n)) K = K ((Enc.enc (nth xs i Enc.d)).getD 0 undef) := by
  have := fl_loadf (j := 0) (K := K) h hn ht hi (by have := Enc.pos (α := α); omega)
  rwa [Nat.add_zero] at this
theorem elem_field {k fo sz : Nat} {b : Bool} {Kk : Value → AHeap → Prop} (h : Fl H v xs) (h0 : 0 < xs.length) : fieldK Kk G (elemPtr v k) (some (fo, sz, b)) = (sz ≠ 0 ∧ Kk (elemPtr v (k + fo)) G) := by
  obtain ⟨_, _, h3⟩ := h
  rcases h3 with ⟨rfl, h⟩ | ⟨id, off, cap, cs, rfl, _⟩
  · omega
  · show fieldK Kk G (.pointer (some ⟨id, off + k, none⟩)) _ = (sz ≠ 0 ∧ Kk (.pointer (some ⟨id, off + (k + fo), none⟩)) G)
    rw [fieldK_ptr, Nat.add_assoc]
/-- A field of an element is written. -/
theorem fl_store {t : TypeId} {lo n : Nat} {a : α} {x : Value} {K : AHeap → Prop} (h : FlH lo G v xs) (hn : Enc.sz α = n) (hi : i < xs.length) (hj : j < n) (ht : tSz P t = some 1) (hx : x.cells = #[x]) (hx1 : x.oneCell' = true) (he : Enc.enc a = (Enc.enc (nth xs i Enc.d)).set j x)
    (hK : ∀ G', FlH lo G' v (xs.set i a) → G'.size = G.size → (∀ id, idOf v ≠ some id → G'.get id = G.get id) → K G') : aStore P G t (elemPtr v (i * n + j)) x K := by
  subst hn
  have hfit := Fl.fit xs hi
  refine hd_store h ht (by rw [hx]; rfl) (by rw [hx]; simp [hx1]) (by rw [← encs_len]; omega) (by omega) fun G' h1 h2 h3 => hK G' ?_ h2 h3
  rw [hx] at h1
  simp only [splice] at h1
  rw [encs_set xs i j x a hi hj he] at h1
  unfold FlH
  rw [List.length_set]; exact h1
/-- An element is written whole. -/
theorem splice_mid : ∀ (vs cs : List Value) (A B C : List Value), cs = A ++ B ++ C → vs.length = B.length → splice cs A.length vs = A ++ vs ++ C
  | [], cs, A, B, C, h, hl => by
    have : B = [] := List.eq_nil_of_length_eq_zero hl.symm
    subst this h; simp [splice]
  | y :: r, cs, A, [], C, h, hl => by simp at hl
  | y :: r, cs, A, b :: B, C, h, hl => by
    subst h
    simp only [splice]
    have e : (A ++ b :: B ++ C).set A.length y = (A ++ [y]) ++ B ++ C := by
      rw [List.append_assoc, List.set_append_right _ _ (Nat.le_refl _), Nat.sub_self]; simp
    have := splice_mid r _ (A ++ [y]) B C e (by simpa using hl)
    rw [List.length_append] at this
    simp only [List.length_cons, List.length_nil, Nat.zero_add] at this
    rw [this]; simp
theorem encs_splice (xs : List α) (i : Nat) (a : α) (hi : i < xs.length) : splice (encs xs) (i * Enc.sz α) (Enc.enc a) = encs (xs.set i a) := by
  have e : xs = xs.take i ++ nth xs i Enc.d :: xs.drop (i + 1) := by
    rw [← drop_getD xs i Enc.d hi, List.take_append_drop]
  have hl : (encs (xs.take i)).length = i * Enc.sz α := by rw [encs_len, List.length_take, Nat.min_eq_left (by omega)]
  have e2 : encs xs = encs (xs.take i) ++ Enc.enc (nth xs i Enc.d) ++ encs (xs.drop (i + 1)) := by
    conv => lhs; rw [e]
    rw [encs_app, encs_cons, List.append_assoc]
  rw [← hl, splice_mid _ _ _ _ _ e2 (by rw [Enc.len, Enc.len])]
  have e3 : xs.set i a = xs.take i ++ a :: xs.drop (i + 1) := by
    rw [List.set_eq_take_append_cons_drop, if_pos hi]
  rw [e3, encs_app, encs_cons, List.append_assoc]
theorem fl_put {t : TypeId} {lo n : Nat} {a : α} {x : Value} {K : AHeap → Prop} (h : FlH lo G v xs) (hn : Enc.sz α = n) (hi : i < xs.length) (ht : tSz P t = some n) (hx : x.cells.toList = Enc.enc a)
    (hK : ∀ G', FlH lo G' v (xs.set i a) → G'.size = G.size → (∀ id, idOf v ≠ some id → G'.get id = G.get id) → K G') : aStore P G t (elemPtr v (i * n)) x K := by
  subst hn
  have hfit := Fl.fit xs hi
  refine hd_store h ht (by have := Enc.len a; rw [← hx] at this; simpa using this) (by rw [hx]; exact Enc.one a) (by rw [← encs_len]; omega) Enc.pos fun G' h1 h2 h3 => hK G' ?_ h2 h3
  rw [hx, encs_splice xs i a hi] at h1
  unfold FlH
  rw [List.length_set]; exact h1
/-- An append of one element. -/
theorem fl_app {lo by_ sz : Nat} {a : α} {nc : List Value} {Kk : Value → AHeap → Prop} (h : FlH lo G v xs) (hsz : Enc.sz α = sz) (hlo : lo ≤ G.size) (hn : nc = Enc.enc a) (hb : (xs.length + 1) * by_ ≤ 140737488355328) (hb2 : xs.length + 1 < big)
    (hk : ∀ v' G', FlH lo G' v' (xs ++ [a]) → G.size ≤ G'.size → (∀ id, id < G.size → idOf v ≠ some id → G'.get id = G.get id) → (∀ id, idOf v' = some id → idOf v = some id ∨ G.size ≤ id) → Kk v' G') : appK P G sz by_ Kk v nc 1 := by
  subst hn
  subst hsz
  refine hd_app h hlo (by rw [Enc.len, Nat.one_mul]) (Enc.one a) hb hb2 fun v' G' h1 h2 h3 h4 => hk v' G' ?_ h2 h3 h4
  unfold FlH
  rw [List.length_append, encs_app]
  simpa using h1
end Go.Ah

namespace Go.Ah.A
open Go Go.Ah Go.Proofs
set_option linter.unusedSimpArgs false
variable {H : AHeap} {Kk : Value → AHeap → Prop}
abbrev Ord := Int × Int × Int
section
variable (y : List (List Int)) (q : Int) (s : List (List Int)) (N : Nat)
def ordT (k b : Int) : Nat → List Ord
  | 0 => []
  | n + 1 => ordT k b n ++ (if (mkP y q s k b n).ok = true then [(k, b, (n : Int))] else [])
def ordB (k : Int) : Nat → List Ord
  | 0 => []
  | m + 1 => ordB k m ++ ordT y q s k ((m + 1 : Nat) : Int) N
def ordK : Nat → List Ord
  | 0 => []
  | c + 1 => ordK c ++ ordB y q s N ((c + 1 : Nat) : Int) 99
theorem ordT_len (k b : Int) : ∀ n, (ordT y q s k b n).length ≤ n
  | 0 => Nat.le_refl _
  | n + 1 => by
    have := ordT_len k b n
    unfold ordT
    rw [List.length_append]
    split <;> simp <;> omega
theorem ordB_len (k : Int) : ∀ m, (ordB y q s N k m).length ≤ m * N
  | 0 => Nat.zero_le _
  | m + 1 => by
    have := ordB_len k m
    have := ordT_len y q s k ((m + 1 : Nat) : Int) N
    unfold ordB
    rw [List.length_append, Nat.add_mul]; omega
theorem ordK_len : ∀ c, (ordK y q s N c).length ≤ c * (99 * N)
  | 0 => Nat.zero_le _
  | c + 1 => by
    have := ordK_len c
    have := ordB_len y q s N ((c + 1 : Nat) : Int) 99
    unfold ordK
    rw [List.length_append, Nat.add_mul]; omega
end
/-- All orders that can be made. -/
def possP (y : List (List Int)) (q : Int) (s : List (List Int)) : List Ord := if validTerminal y q s = true then ordK y q s 6 3 else []
theorem mk_range {y : List (List Int)} {q : Int} {s : List (List Int)} {k b t : Int} (h : (mkP y q s k b t).ok = true) : 0 ≤ t ∧ (t < y.length ∨ t < s.length) := by
  unfold mkP at h
  by_cases h1 : k = 1
  · rw [if_pos h1] at h
    split at h
    · cases h
    · omega
  rw [if_neg h1] at h
  by_cases h2 : k = 2
  · rw [if_pos h2] at h
    split at h
    · cases h
    · omega
  rw [if_neg h2] at h
  by_cases h3 : k = 3
  · rw [if_pos h3] at h
    split at h
    · cases h
    · omega
  · rw [if_neg h3] at h; cases h
theorem ordT_more {y : List (List Int)} {q : Int} {s : List (List Int)} {k b : Int} {M : Nat} (hM : y.length ≤ M ∧ s.length ≤ M) : ∀ d, ordT y q s k b (M + d) = ordT y q s k b M
  | 0 => rfl
  | d + 1 => by
    show ordT y q s k b (M + d) ++ _ = _
    rw [ordT_more hM d, if_neg, List.append_nil]
    intro h
    have := mk_range h
    have e : ((M.add d : Nat) : Int) = (M : Int) + d := by simp
    omega
theorem ordT_none {y : List (List Int)} {q : Int} {s : List (List Int)} {k b : Int} (hy : y.flatten.Nodup) (hs : s.flatten.Nodup) (h1 : (place b y 0).1 < 0) (h2 : (place b s 0).1 < 0) : ∀ n, ordT y q s k b n = []
  | 0 => rfl
  | n + 1 => by
    unfold ordT
    rw [ordT_none hy hs h1 h2 n, List.nil_append, if_neg]
    intro h
    rcases mk_ok h with ⟨_, _, h3⟩ | ⟨_, _, h3⟩ | ⟨_, _, h3⟩
    · rw [← place_tops hy h3] at h3; omega
    · rw [← place_tops hy h3] at h3; omega
    · rw [← place_tops hs h3] at h3; omega
theorem valid_len {y : List (List Int)} {q : Int} {s : List (List Int)} (h : validTerminal y q s = true) : y.length ≤ 6 ∧ s.length ≤ 6 := by
  unfold validTerminal validYard validBay at h
  simp only [Bool.and_eq_true, decide_eq_true_eq] at h
  omega
theorem sz_ord : Enc.sz Ord = 3 := rfl
theorem sp_ok {y : List (List Int)} {q : Int} {s : List (List Int)} {k b t : Int} (h : validTerminal y q s = true) : (spP y q s k b t).ok = (mkP y q s k b t).ok := by rw [sp_mk h]; rfl
set_option maxRecDepth 8000 in
set_option maxHeartbeats 2000000 in
theorem spPossible_c {v u : Value} {vs us : List Value} {xss yss : List (List Int)} {q : Int} (h : IntsS H v vs xss) (g : IntsS H u us yss) (hs : Small xss) (hs' : Small yss)
    (hk : ∀ w H', AKeep H H' → FlH H.size H' w (possP xss q yss) → Kk (.tuple #[w, .bool (validTerminal xss q yss)]) H') : callA Try.prog 19 #[.agg #[v, .int .i64 q, u]] H Kk := by
  refine call_go (fn := Try.f19) (rs := [.tmp 2, .tmp 3]) [] (by kernel_rfl) rfl rfl follows (by kernel_rfl) ?_
  simp only [go_sem, seval, push_p, pushes_p, size_p, get_p, get_p0, set_p, set_p0]
  have e0 : At (pushes H [.rw 3 [v, .int .i64 q, u], .rw 3 []]) _ _ := At.p0
  have a0 : FlH (H.size + 1) (pushes H [.rw 3 [v, .int .i64 q, u], .rw 3 []]) (.slice (some ⟨H.size + 1, 0, none⟩) 0 0) ([] : List Ord) := by
    have := FlH.lit (α := Ord) (H := H.push (.rw 3 [v, .int .i64 q, u])) (sz := 3) rfl
    rw [size_push] at this
    simp only [push_p, pushes_p, List.cons_append, List.nil_append] at this
    exact this
  refine l24Good_c (h.keep keep_p) (g.keep keep_p) fun H1 k1 => ?_
  replace e0 := e0.keep k1
  replace a0 := a0.keep k1
  have kH := k1.p1
  unfold possP at hk
  by_cases hv : validTerminal xss q yss = true
  rotate_left
  · have hv' : validTerminal xss q yss = false := by simpa using hv
    rw [if_neg hv, hv'] at hk
    simp only [go_sem, seval, hv']
    exact hk _ _ kH (a0.le (by omega))
  rw [if_pos hv, hv] at hk
  simp only [go_sem, seval, hv]
  refine loopF [4, 5, 6, 7, 8, 9, 10, 11, 12, 13, 14, 20, 21, 22, 23, 24, 25, 26, 27, 28, 29, 30, 31, 32, 33, 34, 35, 36, 37, 38, 39, 40, 41, 42, 43, 44, 45, 46, 47, 48, 49, 50, 51, 52, 53, 54, 55, 56, 57, 58, 59, 60, 61, 62, 63, 64, 65, 66] (by kernel_rfl) (I := fun nM σ G => ∃ c sv, nM = 3 - c ∧ σ 5 = .int .i64 ((c + 1 : Nat) : Int) ∧ σ 4 = sv ∧ c ≤ 3 ∧ AKeep H G ∧ At G H.size (.rw 3 [v, .int .i64 q, u]) ∧ FlH (H.size + 1) G sv (ordK xss q yss 6 c)) _ ⟨0, .slice (some ⟨H.size + 1, 0, none⟩) 0 0, rfl, ?s5, ?s4, by omega, kH, e0, a0⟩ ?_

  case s5 => first | (simp only [go_sem, seval]; done) | (simp only [go_sem, seval]; rfl) | (simp only [go_sem, seval, *]; done) | (simp only [go_sem, seval]; simp; done)
  case s4 => first | (simp only [go_sem, seval]; done) | (simp only [go_sem, seval]; rfl) | (simp only [go_sem, seval, *]; done) | (simp only [go_sem, seval]; simp; done)
  rintro _ σA _ ⟨c, sv, rfl, s5A, s4A, hc, kG, eG, aG⟩ hsA RA ihA
  rename_i G
  simp only [go_sem, seval, s5A]
  refine fork (fun hlt => ?_) (fun hlt => ?_)
  · have hlt : c < 3 := by simp at hlt; omega
    have hKl := ordK_len xss q yss 6 c
    simp only [go_sem, seval]
    refine loopF [4, 6, 7, 8, 9, 10, 11, 12, 13, 14, 24, 25, 26, 27, 28, 29, 30, 31, 32, 33, 34, 35, 36, 37, 38, 39, 40, 41, 42, 43, 44, 45, 46, 47, 48, 49, 50, 51, 52, 53, 54, 55, 56, 57, 58, 59, 60, 61, 62, 63, 64, 65, 66] (by kernel_rfl) (I := fun nM σ G => ∃ m sv, nM = 99 - m ∧ σ 6 = .int .i64 ((m + 1 : Nat) : Int) ∧ σ 4 = sv ∧ m ≤ 99 ∧ AKeep H G ∧ At G H.size (.rw 3 [v, .int .i64 q, u]) ∧ FlH (H.size + 1) G sv (ordK xss q yss 6 c ++ ordB xss q yss 6 ((c + 1 : Nat) : Int) m)) _ ⟨0, sv, rfl, ?s6, ?s4, by omega, kG, eG, (by rw [ordB, List.append_nil]; exact aG)⟩ ?_

    case s6 => first | (simp only [go_sem, seval]; done) | (simp only [go_sem, seval]; rfl) | (simp only [go_sem, seval, *]; done) | (simp only [go_sem, seval]; simp; done)
    case s4 => first | (simp only [go_sem, seval]; done) | (simp only [go_sem, seval]; rfl) | (simp only [go_sem, seval, *]; done) | (simp only [go_sem, seval]; simp; done)
    rintro _ σB _ ⟨m, sv, rfl, s6B, s4B, hm, kG, eG, aG⟩ hsB RB ihB
    rename_i G
    simp only [go_sem, seval, s6B]
    refine fork (fun hlt2 => ?_) (fun hlt2 => ?_)
    · have hlt2 : m < 99 := by simp at hlt2; omega
      have hBl := ordB_len xss q yss 6 ((c + 1 : Nat) : Int) m
      simp only [go_sem, seval, hsB, hsA, s6B, eG.get]
      refine l5Find_c (h.keep kG) fun G1 g1 => ?_
      replace eG := eG.keep g1
      replace aG := aG.keep g1
      replace kG := kG.trans g1
      simp only [go_sem, seval, hsB, hsA, s6B, eG.get]
      refine l9Find_c (g.keep kG) fun G2 g2 => ?_
      replace eG := eG.keep g2
      replace aG := aG.keep g2
      replace kG := kG.trans g2
      have hw6 : IntKind.i64.wrap (((m + 1 : Nat) : Int) + 1) = ((m + 1 + 1 : Nat) : Int) := by rw [wrap_id (by omega) (by omega)]; omega
      have next : ∀ (sv : Value) {σ : Slots} {G : AHeap}, σ 6 = .int .i64 ((m + 1 + 1 : Nat) : Int) → σ 4 = sv → AKeep H G → At G H.size (.rw 3 [v, .int .i64 q, u]) → FlH (H.size + 1) G sv (ordK xss q yss 6 c ++ ordB xss q yss 6 ((c + 1 : Nat) : Int) (m + 1)) → RB σ G := fun sv {σ G} i1 i2 i3 i4 i5 =>
        ihB _ (by omega) _ _ ⟨m + 1, sv, rfl, i1, i2, by omega, i3, i4, i5⟩
      by_cases hnone : (place ((m + 1 : Nat) : Int) xss 0).1 < 0 ∧ (place ((m + 1 : Nat) : Int) yss 0).1 < 0
      · have n1 : decide ((place ((m + 1 : Nat) : Int) xss 0).1 < 0) = true := by simpa using hnone.1
        have n2 : decide ((place ((m + 1 : Nat) : Int) yss 0).1 < 0) = true := by simpa using hnone.2
        simp only [go_sem, seval, n1, n2, s6B, hw6]
        refine next sv (by simp only [go_sem, seval]) (by simp only [go_sem, seval, s4B]) kG eG ?_
        rw [ordB, ordT_none (valid_yard hv) (valid_bay hv) hnone.1 hnone.2, List.append_nil]
        exact aG
      rcases Decidable.em ((place ((m + 1 : Nat) : Int) xss 0).1 < 0) with hp | hp
      · have n1 : decide ((place ((m + 1 : Nat) : Int) xss 0).1 < 0) = true := by simpa using hp
        have n2 : decide ((place ((m + 1 : Nat) : Int) yss 0).1 < 0) = false := by have := fun e => hnone ⟨hp, e⟩; simpa using this
        simp only [go_sem, seval, n1, n2]
        refine loopF [4, 11, 12, 13, 14, 48, 49, 50, 51, 52, 53, 54, 55, 56, 57, 58, 59, 60, 61, 62, 63, 64, 65, 66] (by kernel_rfl) (I := fun nM σ G => ∃ t sv, nM = 6 - t ∧ σ 11 = .int .i64 (t : Nat) ∧ σ 4 = sv ∧ t ≤ 6 ∧ AKeep H G ∧ At G H.size (.rw 3 [v, .int .i64 q, u]) ∧ FlH (H.size + 1) G sv (ordK xss q yss 6 c ++ ordB xss q yss 6 ((c + 1 : Nat) : Int) m ++ ordT xss q yss ((c + 1 : Nat) : Int) ((m + 1 : Nat) : Int) t)) _ ⟨0, sv, rfl, ?s11, ?s4, by omega, kG, eG, (by rw [ordT, List.append_nil]; exact aG)⟩ ?_

        case s11 => first | (simp only [go_sem, seval]; done) | (simp only [go_sem, seval]; rfl) | (simp only [go_sem, seval, *]; done) | (simp only [go_sem, seval]; simp; done)
        case s4 => first | (simp only [go_sem, seval]; done) | (simp only [go_sem, seval]; rfl) | (simp only [go_sem, seval, *]; done) | (simp only [go_sem, seval]; simp; done)
        rintro _ σC _ ⟨t, sv, rfl, s11C, s4C, ht, kG, eG, aG⟩ hsC RC ihC
        rename_i G
        have hTl := ordT_len xss q yss ((c + 1 : Nat) : Int) ((m + 1 : Nat) : Int) t
        simp only [go_sem, seval, s11C]
        refine fork (fun hlt3 => ?_) (fun hlt3 => ?_)
        · have hlt3 : t < 6 := by simp at hlt3; omega
          have hw11 : IntKind.i64.wrap ((t : Int) + 1) = ((t + 1 : Nat) : Int) := by rw [wrap_id (by omega) (by omega)]; omega
          simp only [go_sem, seval, get_set_same, get_set_ne, Nat.add_left_cancel_iff, hsC, hsB, hsA, s11C, s6B, s5A, push_set, (eG.push _).get, (At.new _).get]
          refine l24Make_c (h.keep (kG.trans (AKeep.push _ _))) (g.keep (kG.trans (AKeep.push _ _))) hs hs' fun v' vs' u' us' G3 g3 h3 o3 oo => ?_
          have eX := (At.new _).keep g3
          replace eG := eG.keep g3.push1
          replace aG := aG.keep g3.push1
          replace kG := kG.trans g3.push1
          rw [sp_ok hv]
          obtain ⟨a, m1, c1, rfl⟩ := h3.top.slice
          obtain ⟨a', m1', c1', rfl⟩ := o3.top.slice
          simp only [go_sem, seval, get_set_same, get_set_ne, Nat.add_left_cancel_iff, push_set]
          by_cases hok : (mkP xss q yss ((c + 1 : Nat) : Int) ((m + 1 : Nat) : Int) t).ok = true
          · simp only [go_sem, seval, get_set_same, get_set_ne, Nat.add_left_cancel_iff, hok, hsC, hsB, hsA, s4C, (eX.push _).get]
            refine fl_app (α := Ord) (a := (((c + 1 : Nat) : Int), ((m + 1 : Nat) : Int), (t : Int))) ((aG.keep (AKeep.push _ _)).keep (AKeep.push _ _)) sz_ord (by have := eG.lt; rw [size_push, size_push]; omega) rfl (by rw [List.length_append, List.length_append]; omega) (by rw [List.length_append, List.length_append]; unfold big; omega) fun sv' G4 a4 z4 f4 _ => ?_
            rw [size_push, size_push] at z4
            have f5 : ∀ id, id < H.size + 1 → id < G3.size → G4.get id = G3.get id := fun id h1 h2 => by
              rw [f4 id (by rw [size_push, size_push]; omega) (fun e => by have := aG.above e; omega), get_push_lt _ _ _ (by rw [size_push]; omega), get_push_lt _ _ _ h2]
            simp only [go_sem, seval, s11C, hw11]
            refine ihC _ (by omega) _ _ ⟨t + 1, sv', rfl, by simp only [go_sem, seval], by simp only [go_sem, seval], by omega, ⟨by have := kG.size; omega, fun id hi => by rw [f5 id (by omega) (by have := kG.size; omega), kG.get id hi]⟩, eG.of (f5 _ (by omega) eG.lt) (by omega), ?_⟩
            rw [ordT, if_pos hok, ← List.append_assoc]
            exact a4
          · have hok' : (mkP xss q yss ((c + 1 : Nat) : Int) ((m + 1 : Nat) : Int) t).ok = false := by simpa using hok
            simp only [go_sem, seval, get_set_same, get_set_ne, Nat.add_left_cancel_iff, hok', hsC, s11C, hw11]
            refine ihC _ (by omega) _ _ ⟨t + 1, sv, rfl, by simp only [go_sem, seval], by simp only [go_sem, seval, s4C], by omega, kG.trans (AKeep.push _ _), eG.push _, ?_⟩
            rw [ordT, if_neg hok, List.append_nil]
            exact aG.keep (AKeep.push _ _)
        · have hlt3 : ¬ t < 6 := by simp at hlt3; omega
          obtain rfl : t = 6 := by omega
          simp only [go_sem, seval, hsC, s6B, hw6]
          refine next sv (by simp only [go_sem, seval]) (by simp only [go_sem, seval, s4C]) kG eG ?_
          rw [ordB, ← List.append_assoc]
          exact aG
      · have n1 : decide ((place ((m + 1 : Nat) : Int) xss 0).1 < 0) = false := by simpa using hp
        simp only [go_sem, seval, n1]
        refine loopF [4, 11, 12, 13, 14, 48, 49, 50, 51, 52, 53, 54, 55, 56, 57, 58, 59, 60, 61, 62, 63, 64, 65, 66] (by kernel_rfl) (I := fun nM σ G => ∃ t sv, nM = 6 - t ∧ σ 11 = .int .i64 (t : Nat) ∧ σ 4 = sv ∧ t ≤ 6 ∧ AKeep H G ∧ At G H.size (.rw 3 [v, .int .i64 q, u]) ∧ FlH (H.size + 1) G sv (ordK xss q yss 6 c ++ ordB xss q yss 6 ((c + 1 : Nat) : Int) m ++ ordT xss q yss ((c + 1 : Nat) : Int) ((m + 1 : Nat) : Int) t)) _ ⟨0, sv, rfl, ?s11, ?s4, by omega, kG, eG, (by rw [ordT, List.append_nil]; exact aG)⟩ ?_

        case s11 => first | (simp only [go_sem, seval]; done) | (simp only [go_sem, seval]; rfl) | (simp only [go_sem, seval, *]; done) | (simp only [go_sem, seval]; simp; done)
        case s4 => first | (simp only [go_sem, seval]; done) | (simp only [go_sem, seval]; rfl) | (simp only [go_sem, seval, *]; done) | (simp only [go_sem, seval]; simp; done)
        rintro _ σC _ ⟨t, sv, rfl, s11C, s4C, ht, kG, eG, aG⟩ hsC RC ihC
        rename_i G
        have hTl := ordT_len xss q yss ((c + 1 : Nat) : Int) ((m + 1 : Nat) : Int) t
        simp only [go_sem, seval, s11C]
        refine fork (fun hlt3 => ?_) (fun hlt3 => ?_)
        · have hlt3 : t < 6 := by simp at hlt3; omega
          have hw11 : IntKind.i64.wrap ((t : Int) + 1) = ((t + 1 : Nat) : Int) := by rw [wrap_id (by omega) (by omega)]; omega
          simp only [go_sem, seval, get_set_same, get_set_ne, Nat.add_left_cancel_iff, hsC, hsB, hsA, s11C, s6B, s5A, push_set, (eG.push _).get, (At.new _).get]
          refine l24Make_c (h.keep (kG.trans (AKeep.push _ _))) (g.keep (kG.trans (AKeep.push _ _))) hs hs' fun v' vs' u' us' G3 g3 h3 o3 oo => ?_
          have eX := (At.new _).keep g3
          replace eG := eG.keep g3.push1
          replace aG := aG.keep g3.push1
          replace kG := kG.trans g3.push1
          rw [sp_ok hv]
          obtain ⟨a, m1, c1, rfl⟩ := h3.top.slice
          obtain ⟨a', m1', c1', rfl⟩ := o3.top.slice
          simp only [go_sem, seval, get_set_same, get_set_ne, Nat.add_left_cancel_iff, push_set]
          by_cases hok : (mkP xss q yss ((c + 1 : Nat) : Int) ((m + 1 : Nat) : Int) t).ok = true
          · simp only [go_sem, seval, get_set_same, get_set_ne, Nat.add_left_cancel_iff, hok, hsC, hsB, hsA, s4C, (eX.push _).get]
            refine fl_app (α := Ord) (a := (((c + 1 : Nat) : Int), ((m + 1 : Nat) : Int), (t : Int))) ((aG.keep (AKeep.push _ _)).keep (AKeep.push _ _)) sz_ord (by have := eG.lt; rw [size_push, size_push]; omega) rfl (by rw [List.length_append, List.length_append]; omega) (by rw [List.length_append, List.length_append]; unfold big; omega) fun sv' G4 a4 z4 f4 _ => ?_
            rw [size_push, size_push] at z4
            have f5 : ∀ id, id < H.size + 1 → id < G3.size → G4.get id = G3.get id := fun id h1 h2 => by
              rw [f4 id (by rw [size_push, size_push]; omega) (fun e => by have := aG.above e; omega), get_push_lt _ _ _ (by rw [size_push]; omega), get_push_lt _ _ _ h2]
            simp only [go_sem, seval, s11C, hw11]
            refine ihC _ (by omega) _ _ ⟨t + 1, sv', rfl, by simp only [go_sem, seval], by simp only [go_sem, seval], by omega, ⟨by have := kG.size; omega, fun id hi => by rw [f5 id (by omega) (by have := kG.size; omega), kG.get id hi]⟩, eG.of (f5 _ (by omega) eG.lt) (by omega), ?_⟩
            rw [ordT, if_pos hok, ← List.append_assoc]
            exact a4
          · have hok' : (mkP xss q yss ((c + 1 : Nat) : Int) ((m + 1 : Nat) : Int) t).ok = false := by simpa using hok
            simp only [go_sem, seval, get_set_same, get_set_ne, Nat.add_left_cancel_iff, hok', hsC, s11C, hw11]
            refine ihC _ (by omega) _ _ ⟨t + 1, sv, rfl, by simp only [go_sem, seval], by simp only [go_sem, seval, s4C], by omega, kG.trans (AKeep.push _ _), eG.push _, ?_⟩
            rw [ordT, if_neg hok, List.append_nil]
            exact aG.keep (AKeep.push _ _)
        · have hlt3 : ¬ t < 6 := by simp at hlt3; omega
          obtain rfl : t = 6 := by omega
          simp only [go_sem, seval, hsC, s6B, hw6]
          refine next sv (by simp only [go_sem, seval]) (by simp only [go_sem, seval, s4C]) kG eG ?_
          rw [ordB, ← List.append_assoc]
          exact aG
    · have hlt2 : ¬ m < 99 := by simp at hlt2; omega
      obtain rfl : m = 99 := by omega
      have hw5 : IntKind.i64.wrap (((c + 1 : Nat) : Int) + 1) = ((c + 1 + 1 : Nat) : Int) := by rw [wrap_id (by omega) (by omega)]; omega
      simp only [go_sem, seval, hsB, s5A, hw5]
      exact ihA _ (by omega) _ _ ⟨c + 1, sv, rfl, by simp only [go_sem, seval], by simp only [go_sem, seval, s4B], by omega, kG, eG, aG⟩
  · have hlt : ¬ c < 3 := by simp at hlt; omega
    obtain rfl : c = 3 := by omega
    simp only [go_sem, seval, s4A]
    exact hk _ _ kG (aG.le (by omega))
end Go.Ah.A


namespace Go.Ah.A
open Go Go.Ah Go.Proofs
set_option linter.unusedSimpArgs false
variable {H : AHeap} {Kk : Value → AHeap → Prop}
theorem ordB_more {y : List (List Int)} {q : Int} {s : List (List Int)} {k : Int} {M : Nat} (hM : y.length ≤ M ∧ s.length ≤ M) (h6 : M ≤ 6) : ∀ m, ordB y q s M k m = ordB y q s 6 k m
  | 0 => rfl
  | m + 1 => by
    obtain ⟨d, hd⟩ : ∃ d, 6 = M + d := ⟨6 - M, by omega⟩
    have e : ordT y q s k ((m + 1 : Nat) : Int) M = ordT y q s k ((m + 1 : Nat) : Int) 6 := by rw [hd, ordT_more hM d]
    unfold ordB
    rw [ordB_more hM h6 m, e]
theorem ordK_more {y : List (List Int)} {q : Int} {s : List (List Int)} {M : Nat} (hM : y.length ≤ M ∧ s.length ≤ M) (h6 : M ≤ 6) : ∀ c, ordK y q s M c = ordK y q s 6 c
  | 0 => rfl
  | c + 1 => by
    unfold ordK
    rw [ordK_more hM h6 c, ordB_more hM h6]
set_option maxRecDepth 8000 in
set_option maxHeartbeats 2000000 in
theorem imPossible_c {v u : Value} {vs us : List Value} {xss yss : List (List Int)} {q : Int} (h : IntsS H v vs xss) (g : IntsS H u us yss) (hs : Small xss) (hs' : Small yss)
    (hk : ∀ w H', AKeep H H' → FlH H.size H' w (possP xss q yss) → Kk (.tuple #[w, .bool (validTerminal xss q yss)]) H') : callA Try.prog 20 #[.agg #[v, .int .i64 q, u]] H Kk := by
  refine call_go (fn := Try.f20) (rs := [.tmp 2, .tmp 3]) [] (by kernel_rfl) rfl rfl follows (by kernel_rfl) ?_
  simp only [go_sem, seval, push_p, pushes_p, size_p, get_p, get_p0, set_p, set_p0]
  have e0 : At (pushes H [.rw 3 [v, .int .i64 q, u]]) _ _ := At.p0
  refine validTerminal_c (h.keep keep_p) (g.keep keep_p) fun H1 k1 => ?_
  replace e0 := e0.keep k1
  have kH := k1.p1
  unfold possP at hk
  by_cases hv : validTerminal xss q yss = true
  rotate_left
  · have hv' : validTerminal xss q yss = false := by simpa using hv
    rw [if_neg hv, hv'] at hk
    simp only [go_sem, seval, hv']
    exact hk _ _ kH FlH.nil
  have hl6 := valid_len hv
  obtain ⟨M, hM⟩ : ∃ M, max xss.length yss.length = M := ⟨_, rfl⟩
  have hMM : xss.length ≤ M ∧ yss.length ≤ M := by omega
  have hM6 : M ≤ 6 := by omega
  rw [if_pos hv, hv, ← ordK_more hMM hM6] at hk
  have hmax : max (xss.length : Int) (yss.length : Int) = (M : Int) := by omega
  simp only [go_sem, seval, hv]
  have a0 : FlH (H.size + 1) (H1.push (.rw 3 [])) (.slice (some ⟨H1.size, 0, none⟩) 0 0) ([] : List Ord) := (FlH.lit (α := Ord) (H := H1) (sz := 3) rfl).le e0.lt
  refine loopF [4, 5, 6, 7, 8, 9, 10, 11, 16, 17, 18, 19, 20, 21, 22, 23, 24, 25, 26, 27, 28, 29, 30, 31, 32, 33, 34, 35, 36, 37, 38, 39, 40, 41, 42, 43, 44, 45, 46, 47, 48, 49, 50, 51, 52] (by kernel_rfl) (I := fun nM σ G => ∃ c sv, nM = 3 - c ∧ σ 5 = .int .i64 ((c + 1 : Nat) : Int) ∧ σ 4 = sv ∧ c ≤ 3 ∧ AKeep H G ∧ At G H.size (.rw 3 [v, .int .i64 q, u]) ∧ FlH (H.size + 1) G sv (ordK xss q yss M c)) _ ⟨0, .slice (some ⟨H1.size, 0, none⟩) 0 0, rfl, ?s5, ?s4, by omega, kH.trans (AKeep.push _ _), e0.push _, a0⟩ ?_

  case s5 => first | (simp only [go_sem, seval]; done) | (simp only [go_sem, seval]; rfl) | (simp only [go_sem, seval, *]; done) | (simp only [go_sem, seval]; simp; done)
  case s4 => first | (simp only [go_sem, seval]; done) | (simp only [go_sem, seval]; rfl) | (simp only [go_sem, seval, *]; done) | (simp only [go_sem, seval]; simp; done)
  rintro _ σA _ ⟨c, sv, rfl, s5A, s4A, hc, kG, eG, aG⟩ hsA RA ihA
  rename_i G
  simp only [go_sem, seval, s5A]
  refine fork (fun hlt => ?_) (fun hlt => ?_)
  · have hlt : c < 3 := by simp at hlt; omega
    have hKl := ordK_len xss q yss M c
    have hKl2 : c * (99 * M) ≤ 2 * (99 * 6) := Nat.mul_le_mul (by omega) (Nat.mul_le_mul (Nat.le_refl _) hM6)
    simp only [go_sem, seval]
    refine loopF [4, 6, 7, 8, 9, 10, 11, 20, 21, 22, 23, 24, 25, 26, 27, 28, 29, 30, 31, 32, 33, 34, 35, 36, 37, 38, 39, 40, 41, 42, 43, 44, 45, 46, 47, 48, 49, 50, 51, 52] (by kernel_rfl) (I := fun nM σ G => ∃ m sv, nM = 99 - m ∧ σ 6 = .int .i64 ((m + 1 : Nat) : Int) ∧ σ 4 = sv ∧ m ≤ 99 ∧ AKeep H G ∧ At G H.size (.rw 3 [v, .int .i64 q, u]) ∧ FlH (H.size + 1) G sv (ordK xss q yss M c ++ ordB xss q yss M ((c + 1 : Nat) : Int) m)) _ ⟨0, sv, rfl, ?s6, ?s4, by omega, kG, eG, (by rw [ordB, List.append_nil]; exact aG)⟩ ?_

    case s6 => first | (simp only [go_sem, seval]; done) | (simp only [go_sem, seval]; rfl) | (simp only [go_sem, seval, *]; done) | (simp only [go_sem, seval]; simp; done)
    case s4 => first | (simp only [go_sem, seval]; done) | (simp only [go_sem, seval]; rfl) | (simp only [go_sem, seval, *]; done) | (simp only [go_sem, seval]; simp; done)
    rintro _ σB _ ⟨m, sv, rfl, s6B, s4B, hm, kG, eG, aG⟩ hsB RB ihB
    rename_i G
    simp only [go_sem, seval, s6B]
    refine fork (fun hlt2 => ?_) (fun hlt2 => ?_)
    · have hlt2 : m < 99 := by simp at hlt2; omega
      have hBl := ordB_len xss q yss M ((c + 1 : Nat) : Int) m
      have hBl2 : m * M ≤ 99 * 6 := Nat.mul_le_mul (by omega) hM6
      have hw6 : IntKind.i64.wrap (((m + 1 : Nat) : Int) + 1) = ((m + 1 + 1 : Nat) : Int) := by rw [wrap_id (by omega) (by omega)]; omega
      have next : ∀ (sv : Value) {σ : Slots} {G : AHeap}, σ 6 = .int .i64 ((m + 1 + 1 : Nat) : Int) → σ 4 = sv → AKeep H G → At G H.size (.rw 3 [v, .int .i64 q, u]) → FlH (H.size + 1) G sv (ordK xss q yss M c ++ ordB xss q yss M ((c + 1 : Nat) : Int) (m + 1)) → RB σ G := fun sv {σ G} i1 i2 i3 i4 i5 =>
        ihB _ (by omega) _ _ ⟨m + 1, sv, rfl, i1, i2, by omega, i3, i4, i5⟩
      simp only [go_sem, seval, hsB, hsA, eG.get, intss_len (h.keep kG), intss_len (g.keep kG), hmax]
      refine loopF [4, 7, 8, 9, 10, 11, 33, 34, 35, 36, 37, 38, 39, 40, 41, 42, 43, 44, 45, 46, 47, 48, 49, 50, 51, 52] (by kernel_rfl) (I := fun nM σ G => ∃ t sv, nM = M - t ∧ σ 33 = .int .i64 (t : Nat) ∧ σ 4 = sv ∧ t ≤ M ∧ AKeep H G ∧ At G H.size (.rw 3 [v, .int .i64 q, u]) ∧ FlH (H.size + 1) G sv (ordK xss q yss M c ++ ordB xss q yss M ((c + 1 : Nat) : Int) m ++ ordT xss q yss ((c + 1 : Nat) : Int) ((m + 1 : Nat) : Int) t)) _ ⟨0, sv, rfl, ?s33, ?s4, by omega, kG, eG, (by rw [ordT, List.append_nil]; exact aG)⟩ ?_

      case s33 => first | (simp only [go_sem, seval]; done) | (simp only [go_sem, seval]; rfl) | (simp only [go_sem, seval, *]; done) | (simp only [go_sem, seval]; simp; done)
      case s4 => first | (simp only [go_sem, seval]; done) | (simp only [go_sem, seval]; rfl) | (simp only [go_sem, seval, *]; done) | (simp only [go_sem, seval]; simp; done)
      rintro _ σC _ ⟨t, sv, rfl, s33C, s4C, ht, kG, eG, aG⟩ hsC RC ihC
      rename_i G
      have hTl := ordT_len xss q yss ((c + 1 : Nat) : Int) ((m + 1 : Nat) : Int) t
      simp only [go_sem, seval, s33C, hsC]
      refine fork (fun hlt3 => ?_) (fun hlt3 => ?_)
      · have hlt3 : t < M := by simp at hlt3; omega
        have hw11 : IntKind.i64.wrap ((t : Int) + 1) = ((t + 1 : Nat) : Int) := by rw [wrap_id (by omega) (by omega)]; omega
        simp only [go_sem, seval, get_set_same, get_set_ne, Nat.add_left_cancel_iff, hsC, hsB, hsA, s33C, s6B, s5A, push_set, (eG.push _).get, (At.new _).get]
        refine makeOrder_c (h.keep (kG.trans (AKeep.push _ _))) (g.keep (kG.trans (AKeep.push _ _))) hs hs' fun v' vs' u' us' G3 g3 h3 o3 oo => ?_
        have eX := (At.new _).keep g3
        replace eG := eG.keep g3.push1
        replace aG := aG.keep g3.push1
        replace kG := kG.trans g3.push1
        obtain ⟨a, m1, c1, rfl⟩ := h3.top.slice
        obtain ⟨a', m1', c1', rfl⟩ := o3.top.slice
        simp only [go_sem, seval, get_set_same, get_set_ne, Nat.add_left_cancel_iff, push_set]
        by_cases hok : (mkP xss q yss ((c + 1 : Nat) : Int) ((m + 1 : Nat) : Int) t).ok = true
        · simp only [go_sem, seval, get_set_same, get_set_ne, Nat.add_left_cancel_iff, hok, hsC, hsB, hsA, s4C, (eX.push _).get]
          refine fl_app (α := Ord) (a := (((c + 1 : Nat) : Int), ((m + 1 : Nat) : Int), (t : Int))) ((aG.keep (AKeep.push _ _)).keep (AKeep.push _ _)) sz_ord (by have := eG.lt; rw [size_push, size_push]; omega) rfl (by rw [List.length_append, List.length_append]; omega) (by rw [List.length_append, List.length_append]; unfold big; omega) fun sv' G4 a4 z4 f4 _ => ?_
          rw [size_push, size_push] at z4
          have f5 : ∀ id, id < H.size + 1 → id < G3.size → G4.get id = G3.get id := fun id h1 h2 => by
            rw [f4 id (by rw [size_push, size_push]; omega) (fun e => by have := aG.above e; omega), get_push_lt _ _ _ (by rw [size_push]; omega), get_push_lt _ _ _ h2]
          simp only [go_sem, seval, s33C, hw11]
          refine ihC _ (by omega) _ _ ⟨t + 1, sv', rfl, by simp only [go_sem, seval], by simp only [go_sem, seval], by omega, ⟨by have := kG.size; omega, fun id hi => by rw [f5 id (by omega) (by have := kG.size; omega), kG.get id hi]⟩, eG.of (f5 _ (by omega) eG.lt) (by omega), ?_⟩
          rw [ordT, if_pos hok, ← List.append_assoc]
          exact a4
        · have hok' : (mkP xss q yss ((c + 1 : Nat) : Int) ((m + 1 : Nat) : Int) t).ok = false := by simpa using hok
          simp only [go_sem, seval, get_set_same, get_set_ne, Nat.add_left_cancel_iff, hok', hsC, s33C, hw11]
          refine ihC _ (by omega) _ _ ⟨t + 1, sv, rfl, by simp only [go_sem, seval], by simp only [go_sem, seval, s4C], by omega, kG.trans (AKeep.push _ _), eG.push _, ?_⟩
          rw [ordT, if_neg hok, List.append_nil]
          exact aG.keep (AKeep.push _ _)
      · have hlt3 : ¬ t < M := by simp at hlt3; omega
        obtain rfl : t = M := by omega
        simp only [go_sem, seval, hsC, s6B, hw6]
        refine next sv (by simp only [go_sem, seval]) (by simp only [go_sem, seval, s4C]) kG eG ?_
        rw [ordB, ← List.append_assoc]
        exact aG
    · have hlt2 : ¬ m < 99 := by simp at hlt2; omega
      obtain rfl : m = 99 := by omega
      have hw5 : IntKind.i64.wrap (((c + 1 : Nat) : Int) + 1) = ((c + 1 + 1 : Nat) : Int) := by rw [wrap_id (by omega) (by omega)]; omega
      simp only [go_sem, seval, hsB, s5A, hw5]
      exact ihA _ (by omega) _ _ ⟨c + 1, sv, rfl, by simp only [go_sem, seval], by simp only [go_sem, seval, s4B], by omega, kG, eG, aG⟩
  · have hlt : ¬ c < 3 := by simp at hlt; omega
    obtain rfl : c = 3 := by omega
    simp only [go_sem, seval, s4A]
    exact hk _ _ kG (aG.le (by omega))
end Go.Ah.A


namespace Go.Ah.A
open Go Go.Ah Go.Proofs
set_option linter.unusedSimpArgs false
variable {H : AHeap} {Kk : Value → AHeap → Prop}
theorem enc_ord (x : Ord) : Enc.enc x = [.int .i64 x.1, .int .i64 x.2.1, .int .i64 x.2.2] := rfl
set_option maxRecDepth 8000 in
theorem eqOrderS_c {v u : Value} {xs ys : List Ord} (h : Fl H v xs) (g : Fl H u ys) (hk : ∀ H', AKeep H H' → Kk (.bool (decide (xs = ys))) H') : callA Try.prog 21 #[v, u] H Kk := by
  have hb := h.lt
  refine call_go (fn := Try.f21) (rs := [.tmp 4]) [] (by kernel_rfl) rfl rfl follows (by kernel_rfl) ?_
  simp only [go_sem, seval, fl_len h, fl_len g]
  by_cases hl : xs.length = ys.length
  rotate_left
  · have hl' : ((xs.length : Int) != (ys.length : Int)) = true := by simp; omega
    simp only [go_sem, seval, hl']
    have : decide (xs = ys) = false := by simp; intro e; exact hl (by rw [e])
    rw [this] at hk
    exact hk _ (AKeep.refl _)
  have hl' : ((xs.length : Int) != (ys.length : Int)) = false := by simp; omega
  simp only [go_sem, seval, hl']
  refine loopF [4, 5, 11, 12, 13, 14, 15, 16, 17, 18, 19, 20, 21, 22, 23, 24, 25, 26] (by kernel_rfl) (I := fun nM σ G => ∃ i, nM = xs.length - i ∧ σ 5 = .int .i64 (i : Nat) ∧ i ≤ xs.length ∧ AKeep H G ∧ ∀ j, j < i → nth xs j Enc.d = nth ys j Enc.d) _ ⟨0, rfl, ?s5, by omega, AKeep.refl _, fun j hj => by omega⟩ ?_

  case s5 => first | (simp only [go_sem, seval]; done) | (simp only [go_sem, seval]; rfl) | (simp only [go_sem, seval, *]; done) | (simp only [go_sem, seval]; simp; done)
  rintro _ σ1 _ ⟨i, rfl, s5, hi, kG, hj⟩ hs R ih
  rename_i G
  simp only [go_sem, seval, s5, hs, fl_len h]
  refine fork (fun hlt => ?_) (fun hlt => ?_)
  · have hlt : i < xs.length := (dec_lt hlt).1 rfl
    have hlt2 : i < ys.length := by omega
    simp only [go_sem, seval, hs, s5, fl_index (h.keep kG) sz_ord, fl_index (g.keep kG) sz_ord, fl_load (h.keep kG) sz_ord, fl_load (g.keep kG) sz_ord, hlt, hlt2, enc_ord]
    refine eqOrder_c fun G2 k2 => ?_
    simp only [go_sem, seval]
    refine ⟨callCond_keep k2, ?_⟩
    by_cases he : nth xs i Enc.d = nth ys i Enc.d
    · have : decide ((nth xs i Enc.d).1 = (nth ys i Enc.d).1 ∧ (nth xs i Enc.d).2.1 = (nth ys i Enc.d).2.1 ∧ (nth xs i Enc.d).2.2 = (nth ys i Enc.d).2.2) = true := by rw [he]; simp
      simp only [go_sem, seval, this, s5, wrap_succ (Nat.lt_of_le_of_lt hlt hb)]
      refine ih _ (by omega) _ _ ⟨i + 1, rfl, by simp only [go_sem, seval], by omega, kG.trans k2, fun j hj' => ?_⟩
      by_cases e : j = i
      · rw [e]; exact he
      · exact hj j (by omega)
    · have : decide ((nth xs i Enc.d).1 = (nth ys i Enc.d).1 ∧ (nth xs i Enc.d).2.1 = (nth ys i Enc.d).2.1 ∧ (nth xs i Enc.d).2.2 = (nth ys i Enc.d).2.2) = false := by
        simp only [decide_eq_false_iff_not]
        intro ⟨e1, e2, e3⟩
        exact he (Prod.ext e1 (Prod.ext e2 e3))
      simp only [go_sem, seval, this]
      have : decide (xs = ys) = false := by simp; intro e; exact he (by rw [e])
      rw [this] at hk
      exact hk _ (kG.trans k2)
  · have hlt : ¬ i < xs.length := by intro h; have := (dec_lt hlt).2 h; cases this
    simp only [go_sem, seval]
    have : decide (xs = ys) = true := by
      simp only [decide_eq_true_eq]
      exact nth_ext hl fun j hj' => hj j (by omega)
    rw [this] at hk
    exact hk _ kG
def marks3 (k : Int) : Nat → List Ord
  | 0 => []
  | n + 1 => marks3 k n ++ [(k + 3 * n, k + 3 * n + 1, k + 3 * n + 2)]
theorem marks3_len {k : Int} : ∀ n, (marks3 k n).length = n
  | 0 => rfl
  | n + 1 => by simp [marks3, marks3_len n]
theorem marks3_nth {k : Int} : ∀ {n i : Nat}, i < n → nth (marks3 k n) i Enc.d = (k + 3 * i, k + 3 * i + 1, k + 3 * i + 2)
  | n + 1, i, h => by
    unfold marks3
    by_cases e : i < n
    · rw [nth_append_lt (by rw [marks3_len]; exact e), marks3_nth e]
    · obtain rfl : i = n := by omega
      have := nth_append_eq (xs := marks3 k i) (x := (k + 3 * (i : Int), k + 3 * (i : Int) + 1, k + 3 * (i : Int) + 2)) (d := Enc.d)
      rwa [marks3_len] at this
set_option maxRecDepth 8000 in
theorem markOrderS_c {lo : Nat} {v : Value} {xs : List Ord} {k : Int} (h : FlH lo H v xs) (hn : xs.length ≤ 1048576) (h0 : 0 ≤ k) (hb : k ≤ 1125899906842624)
    (hk : ∀ H', FlH lo H' v (marks3 k xs.length) → H'.size = H.size → (∀ id, idOf v ≠ some id → H'.get id = H.get id) → Kk (.int .i64 (k + 3 * xs.length)) H') : callA Try.prog 22 #[v, .int .i64 k] H Kk := by
  refine call_go (fn := Try.f22) (rs := [.tmp 4]) [] (by kernel_rfl) rfl rfl follows (by kernel_rfl) ?_
  simp only [go_sem, seval]
  refine loopF [1, 5, 6, 7, 8, 9, 10, 11, 12, 13, 14, 15, 16, 17, 18, 19, 20, 21, 22, 23, 24, 25, 26, 27, 28, 29, 30, 31, 32] (by kernel_rfl) (I := fun nM σ G => ∃ i, nM = xs.length - i ∧ σ 5 = .int .i64 (i : Nat) ∧ σ 1 = .int .i64 (k + 3 * i) ∧ i ≤ xs.length ∧ FlH lo G v (marks3 k i ++ xs.drop i) ∧ G.size = H.size ∧ (∀ id, idOf v ≠ some id → G.get id = H.get id)) _ ⟨0, rfl, ?s5, ?s1, by omega, by simpa [marks3] using h, rfl, fun _ _ => rfl⟩ ?_

  case s5 => first | (simp only [go_sem, seval]; done) | (simp only [go_sem, seval]; rfl) | (simp only [go_sem, seval, *]; done) | (simp only [go_sem, seval]; simp; done)
  case s1 => first | (simp only [go_sem, seval]; done) | (simp only [go_sem, seval]; rfl) | (simp only [go_sem, seval, *]; done) | (simp only [go_sem, seval]; simp; done)
  rintro _ σ1 _ ⟨i, rfl, s5, s1, hi, hh, hz, hf⟩ hs R ih
  rename_i G
  have hll : (marks3 k i ++ xs.drop i).length = xs.length := by rw [List.length_append, marks3_len, List.length_drop]; omega
  simp only [go_sem, seval, s5, s1, hs, fl_len hh.fl, hll]
  refine fork (fun hlt => ?_) (fun hlt => ?_)
  · have hlt : i < xs.length := (dec_lt hlt).1 rfl
    have hl1 : i < (marks3 k i ++ xs.drop i).length := by omega
    have hpos : 0 < (marks3 k i ++ xs.drop i).length := by omega
    have w0 : IntKind.i64.wrap (k + 3 * i + 1) = k + 3 * i + 1 := wrap_id (by omega) (by omega)
    have w1 : IntKind.i64.wrap (k + 3 * i + 1 + 1) = k + 3 * i + 2 := by rw [wrap_id (by omega) (by omega)]; omega
    have w2 : IntKind.i64.wrap (k + 3 * i + 2 + 1) = k + 3 * ((i + 1 : Nat) : Int) := by rw [wrap_id (by omega) (by omega)]; omega
    have wi : IntKind.i64.wrap ((i : Int) + 1) = ((i + 1 : Nat) : Int) := by rw [wrap_id (by omega) (by omega)]; omega
    obtain ⟨x, hx⟩ : ∃ x, nth (marks3 k i ++ xs.drop i) i Enc.d = x := ⟨_, rfl⟩
    simp only [go_sem, seval, hs, s5, s1, fl_index hh.fl sz_ord, hl1, elem_field hh.fl hpos]
    refine fl_store (j := 0) (a := (k + 3 * (i : Int), x.2)) hh sz_ord hl1 (by decide) (by simp only [go_sem, seval]) rfl rfl (by rw [hx]; rfl) fun G1 hh1 hz1 hf1 => ?_
    have hl2 : i < ((marks3 k i ++ xs.drop i).set i (k + 3 * (i : Int), x.2)).length := by rw [List.length_set]; exact hl1
    have hpos2 : 0 < ((marks3 k i ++ xs.drop i).set i (k + 3 * (i : Int), x.2)).length := by omega
    simp only [go_sem, seval, s5, s1, hs, w0, fl_index hh1.fl sz_ord, hl2, elem_field hh1.fl hpos2]
    refine fl_store (j := 1) (a := (k + 3 * (i : Int), k + 3 * (i : Int) + 1, x.2.2)) hh1 sz_ord hl2 (by decide) (by simp only [go_sem, seval]) rfl rfl (by rw [nth_set_eq hl1]; rfl) fun G2 hh2 hz2 hf2 => ?_
    rw [List.set_set] at hh2
    have hl3 : i < ((marks3 k i ++ xs.drop i).set i (k + 3 * (i : Int), k + 3 * (i : Int) + 1, x.2.2)).length := by rw [List.length_set]; exact hl1
    have hpos3 : 0 < ((marks3 k i ++ xs.drop i).set i (k + 3 * (i : Int), k + 3 * (i : Int) + 1, x.2.2)).length := by omega
    simp only [go_sem, seval, s5, s1, hs, w1, fl_index hh2.fl sz_ord, hl3, elem_field hh2.fl hpos3]
    refine fl_store (j := 2) (a := (k + 3 * (i : Int), k + 3 * (i : Int) + 1, k + 3 * (i : Int) + 2)) hh2 sz_ord hl3 (by decide) (by simp only [go_sem, seval]) rfl rfl (by rw [nth_set_eq hl1]; rfl) fun G3 hh3 hz3 hf3 => ?_
    rw [List.set_set, set_mid (marks3_len i) hlt] at hh3
    simp only [go_sem, seval, s5, s1, hs, w2, wi]
    exact ih _ (by omega) _ _ ⟨i + 1, rfl, by simp only [go_sem, seval], by simp only [go_sem, seval], by omega, hh3, by omega, fun id hid => by rw [hf3 id hid, hf2 id hid, hf1 id hid, hf id hid]⟩
  · have hlt : ¬ i < xs.length := by intro h; have := (dec_lt hlt).2 h; cases this
    obtain rfl : i = xs.length := by omega
    simp only [go_sem, seval, s1]
    rw [List.drop_eq_nil_of_le (by omega), List.append_nil] at hh
    exact hk _ hh hz hf
set_option maxRecDepth 8000 in
theorem heldOrderS_c {v : Value} {n : Nat} {k : Int} (h : Fl H v (marks3 k n)) (hn : n ≤ 1048576) (h0 : 0 ≤ k) (hb : k ≤ 1125899906842624) (hk : Kk (.int .i64 (k + 3 * n)) H) : callA Try.prog 23 #[v, .int .i64 k] H Kk := by
  have hml := marks3_len (k := k) n
  refine call_go (fn := Try.f23) (rs := [.tmp 4]) [] (by kernel_rfl) rfl rfl follows (by kernel_rfl) ?_
  simp only [go_sem, seval]
  refine loopF [1, 4, 5, 6, 7, 8, 9, 10, 11, 12, 13, 14, 15, 16, 17, 18, 19, 20, 21, 22, 23, 24, 25, 26, 27, 28, 29, 30, 31, 32, 33, 34, 35, 36, 37, 38] (by kernel_rfl) (I := fun nM σ G => ∃ i, nM = n - i ∧ σ 5 = .int .i64 (i : Nat) ∧ σ 1 = .int .i64 (k + 3 * i) ∧ G = H ∧ i ≤ n) _ ⟨0, rfl, ?s5, ?s1, rfl, by omega⟩ ?_

  case s5 => first | (simp only [go_sem, seval]; done) | (simp only [go_sem, seval]; rfl) | (simp only [go_sem, seval, *]; done) | (simp only [go_sem, seval]; simp; done)
  case s1 => first | (simp only [go_sem, seval]; done) | (simp only [go_sem, seval]; rfl) | (simp only [go_sem, seval, *]; done) | (simp only [go_sem, seval]; simp; done)
  rintro _ σ1 _ ⟨i, rfl, s5, s1, rfl, hi⟩ hs R ih
  rename_i G0
  simp only [go_sem, seval, s5, s1, hs, fl_len h, hml]
  refine fork (fun hlt => ?_) (fun hlt => ?_)
  · have hlt : i < n := (dec_lt hlt).1 rfl
    have w0 : IntKind.i64.wrap (k + 3 * i + 1) = k + 3 * i + 1 := wrap_id (by omega) (by omega)
    have w1 : IntKind.i64.wrap (k + 3 * i + 1 + 1) = k + 3 * i + 2 := by rw [wrap_id (by omega) (by omega)]; omega
    have w2 : IntKind.i64.wrap (k + 3 * i + 2 + 1) = k + 3 * ((i + 1 : Nat) : Int) := by rw [wrap_id (by omega) (by omega)]; omega
    have wi : IntKind.i64.wrap ((i : Int) + 1) = ((i + 1 : Nat) : Int) := by rw [wrap_id (by omega) (by omega)]; omega
    have hl1 : i < (marks3 k n).length := by omega
    have hpos : 0 < (marks3 k n).length := by omega
    have l0 : ∀ {G : AHeap} {t : TypeId} {K : Value → Prop}, G = G0 → tVar Try.prog t = some (1, false) → aLoad Try.prog G t (elemPtr v (i * 3)) K = K (.int .i64 (k + 3 * i)) := fun {G t K} e ht => by
      subst e
      have := fl_loadf (P := Try.prog) (j := 0) (K := K) h sz_ord ht hl1 (by decide); rw [marks3_nth hlt] at this; exact this
    have l1 : ∀ {G : AHeap} {t : TypeId} {K : Value → Prop}, G = G0 → tVar Try.prog t = some (1, false) → aLoad Try.prog G t (elemPtr v (i * 3 + 1)) K = K (.int .i64 (k + 3 * i + 1)) := fun {G t K} e ht => by
      subst e
      have := fl_loadf (P := Try.prog) (j := 1) (K := K) h sz_ord ht hl1 (by decide); rw [marks3_nth hlt] at this; exact this
    have l2 : ∀ {G : AHeap} {t : TypeId} {K : Value → Prop}, G = G0 → tVar Try.prog t = some (1, false) → aLoad Try.prog G t (elemPtr v (i * 3 + 2)) K = K (.int .i64 (k + 3 * i + 2)) := fun {G t K} e ht => by
      subst e
      have := fl_loadf (P := Try.prog) (j := 2) (K := K) h sz_ord ht hl1 (by decide); rw [marks3_nth hlt] at this; exact this
    simp only [go_sem, seval, hs, s5, s1, fl_index h sz_ord, hl1, elem_field h hpos, l0 rfl, l1 rfl, l2 rfl, w0, w1, w2, wi]
    exact ih _ (by omega) _ _ ⟨i + 1, rfl, by simp only [go_sem, seval], by simp only [go_sem, seval], rfl, by omega⟩
  · have hlt : ¬ i < n := by intro h; have := (dec_lt hlt).2 h; cases this
    obtain rfl : i = n := by omega
    simp only [go_sem, seval, s1]
    exact hk
end Go.Ah.A


namespace Go.Ah.A
open Go Go.Ah Go.Proofs
set_option linter.unusedSimpArgs false
variable {H : AHeap} {Kk : Value → AHeap → Prop}
structure RN where
  y : List (List Int)
  q : Int
  s : List (List Int)
  n : Int
  ok : Bool
/-- Orders made one behind the other, as long as they can be made. -/
def runL (y : List (List Int)) (q : Int) (s : List (List Int)) : List Ord → Nat → RN
  | [], i => ⟨y, q, s, i, true⟩
  | x :: r, i => if (mkP y q s x.1 x.2.1 x.2.2).ok = true then runL (mkP y q s x.1 x.2.1 x.2.2).y (mkP y q s x.1 x.2.1 x.2.2).q (mkP y q s x.1 x.2.1 x.2.2).s r (i + 1) else ⟨y, q, s, i, true⟩
def runP (y : List (List Int)) (q : Int) (s : List (List Int)) (xs : List Ord) : RN := if validTerminal y q s = true ∧ xs.length ≤ 30 then runL y q s xs 0 else ⟨[], 0, [], 0, false⟩
theorem mk_valid' {y : List (List Int)} {q : Int} {s : List (List Int)} {k b t : Int} (h : (mkP y q s k b t).ok = true) : validTerminal (mkP y q s k b t).y (mkP y q s k b t).q (mkP y q s k b t).s = true := by
  rcases mk_valid (y := y) (q := q) (s := s) (k := k) (b := b) (t := t) with h1 | h1
  · rw [h1] at h; cases h
  · exact h1.2
theorem runL_valid : ∀ (xs : List Ord) (i : Nat) (y : List (List Int)) (q : Int) (s : List (List Int)), validTerminal y q s = true → validTerminal (runL y q s xs i).y (runL y q s xs i).q (runL y q s xs i).s = true
  | [], i, y, q, s, h => h
  | x :: r, i, y, q, s, h => by
    unfold runL
    split
    · rename_i h1; exact runL_valid r _ _ _ _ (mk_valid' h1)
    · exact h
theorem small_run {y : List (List Int)} {q : Int} {s : List (List Int)} {xs : List Ord} : Small (runP y q s xs).y ∧ Small (runP y q s xs).s := by
  unfold runP
  split
  · rename_i h; exact small_valid (runL_valid xs 0 y q s h.1)
  · exact ⟨small_nil, small_nil⟩
set_option maxRecDepth 8000 in
set_option maxHeartbeats 2000000 in
theorem spRunOrders_c {v u w : Value} {vs us : List Value} {xss yss : List (List Int)} {q : Int} {xs : List Ord} (h : IntsS H v vs xss) (g : IntsS H u us yss) (hw : Fl H w xs) (hs : Small xss) (hs' : Small yss)
    (hk : ∀ v' vs' u' us' H', AKeep H H' → HSS H.size H' v' vs' (runP xss q yss xs).y → HSS H.size H' u' us' (runP xss q yss xs).s → Off v' vs' u' us' → Kk (.tuple #[.agg #[v', .int .i64 (runP xss q yss xs).q, u'], .int .i64 (runP xss q yss xs).n, .bool (runP xss q yss xs).ok]) H') : callA Try.prog 31 #[.agg #[v, .int .i64 q, u], w] H Kk := by
  refine call_go (fn := Try.f31) (rs := [.cell 4 38, .tmp 5, .tmp 6]) [] (by kernel_rfl) rfl rfl follows (by kernel_rfl) ?_
  simp only [go_sem, seval, push_p, pushes_p, size_p, get_p, get_p0, set_p, set_p0]
  have e0 : At (pushes H [.rw 3 [v, .int .i64 q, u], .rw 3 [.slice none 0 0, .int .i64 0, .slice none 0 0]]) _ _ := At.p0
  have e1 : At (pushes H [.rw 3 [v, .int .i64 q, u], .rw 3 [.slice none 0 0, .int .i64 0, .slice none 0 0]]) _ _ := At.p 1 _ rfl
  refine l24Good_c (h.keep keep_p) (g.keep keep_p) fun H1 k1 => ?_
  replace e0 := e0.keep k1
  replace e1 := e1.keep k1
  have kH := k1.p1
  have b1 := e1.lt
  unfold runP at hk
  by_cases hv : validTerminal xss q yss = true
  rotate_left
  · have hv' : validTerminal xss q yss = false := by simpa using hv
    rw [if_neg (fun e => hv e.1)] at hk
    simp only [go_sem, seval, get_set_same, get_set_ne, Nat.add_left_cancel_iff, hv', e1.get, b1]
    exact hk _ [] _ [] _ (kH.set (by omega)) hss_nil hss_nil fun id hi => absurd hi inF_nil
  by_cases h30 : xs.length ≤ 30
  rotate_left
  · have h30' : decide ((30 : Int) < (xs.length : Int)) = true := by simp; omega
    rw [if_neg (fun e => h30 e.2)] at hk
    simp only [go_sem, seval, get_set_same, get_set_ne, Nat.add_left_cancel_iff, hv, fl_len hw, h30', e1.get, b1]
    exact hk _ [] _ [] _ (kH.set (by omega)) hss_nil hss_nil fun id hi => absurd hi inF_nil
  have h30' : decide ((30 : Int) < (xs.length : Int)) = false := by simp; omega
  rw [if_pos ⟨hv, h30⟩] at hk
  simp only [go_sem, seval, get_set_same, get_set_ne, Nat.add_left_cancel_iff, hv, fl_len hw, h30', e0.get]
  refine l24Own_c (h.keep kH) (g.keep kH) hs hs' fun v1 vs1 u1 us1 H2 k2 h2 g2 o2 => ?_
  have hz2 := k2.size
  replace e0 := e0.keep k2
  replace e1 := e1.keep k2
  have kH := kH.trans k2
  obtain ⟨a, m, c, rfl⟩ := h2.top.slice
  obtain ⟨a', m', c', rfl⟩ := g2.top.slice
  simp only [go_sem, seval, get_set_same, get_set_ne, Nat.add_left_cancel_iff, push_set]
  refine loopF [5, 6, 8, 9, 10, 22, 23, 24, 25, 26, 27, 28, 29, 30, 31, 32, 33, 34, 35, 36, 37, 38, 39, 40, 41] (by kernel_rfl) (I := fun nM σ G => ∃ i cv cvs cu cus cy cq cs, nM = xs.length - i ∧ σ 8 = .int .i64 (i : Nat) ∧ i ≤ xs.length ∧ AKeep H G ∧ At G (H.size + 1) (.rw 3 [.slice none 0 0, .int .i64 0, .slice none 0 0]) ∧ At G H2.size (.rw 3 [cv, .int .i64 cq, cu]) ∧ HSS (H.size + 2) G cv cvs cy ∧ HSS (H.size + 2) G cu cus cs ∧ Off cv cvs cu cus ∧ (¬ InF cv cvs H2.size ∧ ¬ InF cu cus H2.size) ∧ validTerminal cy cq cs = true ∧ runL xss q yss xs 0 = runL cy cq cs (xs.drop i) i) _ ⟨0, .slice a m c, vs1, .slice a' m' c', us1, xss, q, yss, rfl, ?s8, by omega, kH.trans (AKeep.push _ _), e1.push _, At.new _, (h2.keep (AKeep.push _ _)).le (by have := e1.lt; omega), (g2.keep (AKeep.push _ _)).le (by have := e1.lt; omega), o2, ⟨fun e => by have := h2.low e; omega, fun e => by have := g2.low e; omega⟩, hv, rfl⟩ ?_

  case s8 => first | (simp only [go_sem, seval]; done) | (simp only [go_sem, seval]; rfl) | (simp only [go_sem, seval, *]; done) | (simp only [go_sem, seval]; simp; done)
  rintro _ σ1 _ ⟨i, cv, cvs, cu, cus, cy, cq, cs, rfl, s8, hi, kG, f1, f2, ch, cg, co, cn, cval, hrun⟩ hs R ih
  rename_i G
  have b1 := f1.lt
  have b2 := f2.lt
  simp only [go_sem, seval, s8, hs, fl_len hw]
  refine fork (fun hlt => ?_) (fun hlt => ?_)
  · have hlt : i < xs.length := (dec_lt hlt).1 rfl
    rw [drop_getD _ _ Enc.d hlt, runL] at hrun
    simp only [go_sem, seval, get_set_same, get_set_ne, Nat.add_left_cancel_iff, hs, s8, f2.get, fl_index (hw.keep kG) sz_ord, fl_load (hw.keep kG) sz_ord, hlt, enc_ord]
    obtain ⟨sy, ss⟩ := small_valid cval
    refine l24Make_c ch.intss cg.intss sy ss fun v3 vs3 u3 us3 G3 k3 h3 g3 o3 => ?_
    have hz3 := k3.size
    rw [sp_mk cval] at h3 g3 ⊢
    replace f1 := f1.keep k3
    replace f2 := f2.keep k3
    replace kG := kG.trans k3
    obtain ⟨a3, m3, c3, rfl⟩ := h3.top.slice
    obtain ⟨a3', m3', c3', rfl⟩ := g3.top.slice
    simp only [go_sem, seval, get_set_same, get_set_ne, Nat.add_left_cancel_iff, push_set]
    refine ⟨callCond_keep k3, ?_⟩
    by_cases hok : (mkP cy cq cs (nth xs i Enc.d).1 (nth xs i Enc.d).2.1 (nth xs i Enc.d).2.2).ok = true
    · have hok2 : (mkP cy cq cs (nth xs i Enc.d).1 (nth xs i Enc.d).2.1 (nth xs i Enc.d).2.2).flat.ok = true := hok
      rw [if_pos hok] at hrun
      have n2 : H2.size ≠ G3.size := by have := f2.lt; omega
      have b3 := (f2.push (.rw 3 [.slice a3 m3 c3, .int .i64 (mkP cy cq cs (nth xs i Enc.d).1 (nth xs i Enc.d).2.1 (nth xs i Enc.d).2.2).flat.q, .slice a3' m3' c3'])).lt
      simp only [go_sem, seval, get_set_same, get_set_ne, Nat.add_left_cancel_iff, hs, hok2, (f2.push _).get, (At.new _).get, s8, wrap_succ (Nat.lt_of_le_of_lt hlt hw.lt)]
      refine ih _ (by omega) _ _ ⟨i + 1, _, vs3, _, us3, _, _, _, rfl, by simp only [go_sem, seval], by omega, (kG.trans (AKeep.push _ _)).set (by omega), (f1.push _).setN (by omega), (f2.push _).setE _, (((h3.keep (AKeep.push _ _)).setL (by omega)).le (by omega)), (((g3.keep (AKeep.push _ _)).setL (by omega)).le (by omega)), o3, ⟨fun e => by have := h3.above e; omega, fun e => by have := g3.above e; omega⟩, mk_valid' hok, hrun⟩
    · have hok2 : (mkP cy cq cs (nth xs i Enc.d).1 (nth xs i Enc.d).2.1 (nth xs i Enc.d).2.2).flat.ok = false := by simpa [MK.flat] using hok
      rw [if_neg hok] at hrun
      rw [hrun] at hk
      have ch3 := ch.keep k3
      have cg3 := cg.keep k3
      obtain ⟨a4, m4, c4, rfl⟩ := ch.top.slice
      obtain ⟨a4', m4', c4', rfl⟩ := cg.top.slice
      have b3 := (f1.push (.rw 3 [.slice a3 m3 c3, .int .i64 (mkP cy cq cs (nth xs i Enc.d).1 (nth xs i Enc.d).2.1 (nth xs i Enc.d).2.2).flat.q, .slice a3' m3' c3'])).lt
      have b4 : H.size + 1 < G3.size + 1 := by omega
      have b5 : H.size < G3.size := by omega
      simp only [go_sem, seval, get_set_same, get_set_ne, Nat.add_left_cancel_iff, hok2, hs, s8, (f2.push _).get, (f1.push _).get, b3, b4, b5]
      exact hk _ _ _ _ _ ((kG.trans (AKeep.push _ _)).set (by omega)) (((ch3.keep (AKeep.push _ _)).setL (by omega)).le (by omega)) (((cg3.keep (AKeep.push _ _)).setL (by omega)).le (by omega)) co
  · have hlt : ¬ i < xs.length := by intro h; have := (dec_lt hlt).2 h; cases this
    obtain rfl : i = xs.length := by omega
    rw [List.drop_eq_nil_of_le (by omega), runL] at hrun
    rw [hrun] at hk
    obtain ⟨a4, m4, c4, rfl⟩ := ch.top.slice
    obtain ⟨a4', m4', c4', rfl⟩ := cg.top.slice
    simp only [go_sem, seval, get_set_same, get_set_ne, Nat.add_left_cancel_iff, hs, fl_len hw, f2.get, f1.get, b1]
    exact hk _ _ _ _ _ (kG.set (by omega)) ((ch.setL (by omega)).le (by omega)) ((cg.setL (by omega)).le (by omega)) co
end Go.Ah.A


namespace Go.Ah.A
open Go Go.Ah Go.Proofs
set_option linter.unusedSimpArgs false
variable {H : AHeap} {Kk : Value → AHeap → Prop}
set_option maxRecDepth 8000 in
set_option maxHeartbeats 2000000 in
theorem imRunOrders_c {v u w : Value} {vs us : List Value} {xss yss : List (List Int)} {q : Int} {xs : List Ord} (h : IntsS H v vs xss) (g : IntsS H u us yss) (hw : Fl H w xs) (hs : Small xss) (hs' : Small yss)
    (hk : ∀ v' vs' u' us' H', AKeep H H' → HSS H.size H' v' vs' (runP xss q yss xs).y → HSS H.size H' u' us' (runP xss q yss xs).s → Off v' vs' u' us' → Kk (.tuple #[.agg #[v', .int .i64 (runP xss q yss xs).q, u'], .int .i64 (runP xss q yss xs).n, .bool (runP xss q yss xs).ok]) H') : callA Try.prog 33 #[.agg #[v, .int .i64 q, u], w] H Kk := by
  refine call_go (fn := Try.f33) (rs := [.cell 4 38, .tmp 5, .tmp 6]) [] (by kernel_rfl) rfl rfl follows (by kernel_rfl) ?_
  simp only [go_sem, seval, push_p, pushes_p, size_p, get_p, get_p0, set_p, set_p0]
  have e0 : At (pushes H [.rw 3 [v, .int .i64 q, u], .rw 3 [.slice none 0 0, .int .i64 0, .slice none 0 0]]) _ _ := At.p0
  have e1 : At (pushes H [.rw 3 [v, .int .i64 q, u], .rw 3 [.slice none 0 0, .int .i64 0, .slice none 0 0]]) _ _ := At.p 1 _ rfl
  refine validTerminal_c (h.keep keep_p) (g.keep keep_p) fun H1 k1 => ?_
  replace e0 := e0.keep k1
  replace e1 := e1.keep k1
  have kH := k1.p1
  have b1 := e1.lt
  unfold runP at hk
  by_cases hv : validTerminal xss q yss = true
  rotate_left
  · have hv' : validTerminal xss q yss = false := by simpa using hv
    rw [if_neg (fun e => hv e.1)] at hk
    simp only [go_sem, seval, get_set_same, get_set_ne, Nat.add_left_cancel_iff, hv', e1.get, b1]
    exact hk _ [] _ [] _ (kH.set (by omega)) hss_nil hss_nil fun id hi => absurd hi inF_nil
  by_cases h30 : xs.length ≤ 30
  rotate_left
  · have h30' : decide ((30 : Int) < (xs.length : Int)) = true := by simp; omega
    rw [if_neg (fun e => h30 e.2)] at hk
    simp only [go_sem, seval, get_set_same, get_set_ne, Nat.add_left_cancel_iff, hv, fl_len hw, h30', e1.get, b1]
    exact hk _ [] _ [] _ (kH.set (by omega)) hss_nil hss_nil fun id hi => absurd hi inF_nil
  have h30' : decide ((30 : Int) < (xs.length : Int)) = false := by simp; omega
  rw [if_pos ⟨hv, h30⟩] at hk
  simp only [go_sem, seval, get_set_same, get_set_ne, Nat.add_left_cancel_iff, hv, fl_len hw, h30', e0.get]
  refine ownTerminal_c (h.keep kH) (g.keep kH) hs hs' fun v1 vs1 u1 us1 H2 k2 h2 g2 o2 => ?_
  have hz2 := k2.size
  replace e0 := e0.keep k2
  replace e1 := e1.keep k2
  have kH := kH.trans k2
  obtain ⟨a, m, c, rfl⟩ := h2.top.slice
  obtain ⟨a', m', c', rfl⟩ := g2.top.slice
  simp only [go_sem, seval, get_set_same, get_set_ne, Nat.add_left_cancel_iff, push_set, fl_len hw]
  refine loopF [5, 6, 8, 9, 10, 11, 12, 26, 27, 28, 29, 30, 31, 32, 33, 34, 35, 36, 37, 38, 39, 40, 41, 42, 43] (by kernel_rfl) (I := fun nM σ G => ∃ i cv cvs cu cus cy cq cs, nM = xs.length - i ∧ σ 26 = .int .i64 (i : Nat) ∧ i ≤ xs.length ∧ AKeep H G ∧ At G (H.size + 1) (.rw 3 [.slice none 0 0, .int .i64 0, .slice none 0 0]) ∧ At G H2.size (.rw 3 [cv, .int .i64 cq, cu]) ∧ HSS (H.size + 2) G cv cvs cy ∧ HSS (H.size + 2) G cu cus cs ∧ Off cv cvs cu cus ∧ (¬ InF cv cvs H2.size ∧ ¬ InF cu cus H2.size) ∧ validTerminal cy cq cs = true ∧ runL xss q yss xs 0 = runL cy cq cs (xs.drop i) i) _ ⟨0, .slice a m c, vs1, .slice a' m' c', us1, xss, q, yss, rfl, ?s26, by omega, kH.trans (AKeep.push _ _), e1.push _, At.new _, (h2.keep (AKeep.push _ _)).le (by have := e1.lt; omega), (g2.keep (AKeep.push _ _)).le (by have := e1.lt; omega), o2, ⟨fun e => by have := h2.low e; omega, fun e => by have := g2.low e; omega⟩, hv, rfl⟩ ?_

  case s26 => first | (simp only [go_sem, seval]; done) | (simp only [go_sem, seval]; rfl) | (simp only [go_sem, seval, *]; done) | (simp only [go_sem, seval]; simp; done)
  rintro _ σ1 _ ⟨i, cv, cvs, cu, cus, cy, cq, cs, rfl, s26, hi, kG, f1, f2, ch, cg, co, cn, cval, hrun⟩ hs R ih
  rename_i G
  have b1 := f1.lt
  have b2 := f2.lt
  simp only [go_sem, seval, s26, hs]
  refine fork (fun hlt => ?_) (fun hlt => ?_)
  · have hlt : i < xs.length := (dec_lt hlt).1 rfl
    rw [drop_getD _ _ Enc.d hlt, runL] at hrun
    simp only [go_sem, seval, get_set_same, get_set_ne, Nat.add_left_cancel_iff, hs, s26, f2.get, fl_index (hw.keep kG) sz_ord, fl_load (hw.keep kG) sz_ord, hlt, enc_ord, push_set, (f2.push _).get, (At.new _).get]
    obtain ⟨sy, ss⟩ := small_valid cval
    refine makeOrder_c (ch.keep (AKeep.push _ _)).intss (cg.keep (AKeep.push _ _)).intss sy ss fun v3 vs3 u3 us3 G3 k3 h3 g3 o3 => ?_
    have hz3 := k3.size
    rw [size_push] at hz3 h3 g3
    have hx := k3.push1
    replace f1 := f1.keep hx
    replace f2 := f2.keep hx
    replace kG := kG.trans hx
    obtain ⟨a3, m3, c3, rfl⟩ := h3.top.slice
    obtain ⟨a3', m3', c3', rfl⟩ := g3.top.slice
    simp only [go_sem, seval, get_set_same, get_set_ne, Nat.add_left_cancel_iff, push_set]
    by_cases hok : (mkP cy cq cs (nth xs i Enc.d).1 (nth xs i Enc.d).2.1 (nth xs i Enc.d).2.2).ok = true
    · have hok2 : (mkP cy cq cs (nth xs i Enc.d).1 (nth xs i Enc.d).2.1 (nth xs i Enc.d).2.2).ok = true := hok
      rw [if_pos hok] at hrun
      have n2 : H2.size ≠ G3.size := by have := f2.lt; omega
      have b3 := (f2.push (.rw 3 [.slice a3 m3 c3, .int .i64 (mkP cy cq cs (nth xs i Enc.d).1 (nth xs i Enc.d).2.1 (nth xs i Enc.d).2.2).q, .slice a3' m3' c3'])).lt
      simp only [go_sem, seval, get_set_same, get_set_ne, Nat.add_left_cancel_iff, hs, hok2, (f2.push _).get, (At.new _).get, s26, wrap_succ (Nat.lt_of_le_of_lt hlt hw.lt)]
      refine ih _ (by omega) _ _ ⟨i + 1, _, vs3, _, us3, _, _, _, rfl, by simp only [go_sem, seval], by omega, (kG.trans (AKeep.push _ _)).set (by omega), (f1.push _).setN (by omega), (f2.push _).setE _, (((h3.keep (AKeep.push _ _)).setL (by omega)).le (by omega)), (((g3.keep (AKeep.push _ _)).setL (by omega)).le (by omega)), o3, ⟨fun e => by have := h3.above e; omega, fun e => by have := g3.above e; omega⟩, mk_valid' hok, hrun⟩
    · have hok2 : (mkP cy cq cs (nth xs i Enc.d).1 (nth xs i Enc.d).2.1 (nth xs i Enc.d).2.2).ok = false := by simpa using hok
      rw [if_neg hok] at hrun
      rw [hrun] at hk
      have ch3 := ch.keep hx
      have cg3 := cg.keep hx
      obtain ⟨a4, m4, c4, rfl⟩ := ch.top.slice
      obtain ⟨a4', m4', c4', rfl⟩ := cg.top.slice
      have b3 := (f1.push (.rw 3 [.slice a3 m3 c3, .int .i64 (mkP cy cq cs (nth xs i Enc.d).1 (nth xs i Enc.d).2.1 (nth xs i Enc.d).2.2).q, .slice a3' m3' c3'])).lt
      have b4 : H.size + 1 < G3.size + 1 := by omega
      have b5 : H.size < G3.size := by omega
      simp only [go_sem, seval, get_set_same, get_set_ne, Nat.add_left_cancel_iff, hok2, hs, s26, (f2.push _).get, (f1.push _).get, b3, b4, b5]
      exact hk _ _ _ _ _ ((kG.trans (AKeep.push _ _)).set (by omega)) (((ch3.keep (AKeep.push _ _)).setL (by omega)).le (by omega)) (((cg3.keep (AKeep.push _ _)).setL (by omega)).le (by omega)) co
  · have hlt : ¬ i < xs.length := by intro h; have := (dec_lt hlt).2 h; cases this
    obtain rfl : i = xs.length := by omega
    rw [List.drop_eq_nil_of_le (by omega), runL] at hrun
    rw [hrun] at hk
    obtain ⟨a4, m4, c4, rfl⟩ := ch.top.slice
    obtain ⟨a4', m4', c4', rfl⟩ := cg.top.slice
    simp only [go_sem, seval, get_set_same, get_set_ne, Nat.add_left_cancel_iff, hs, fl_len hw, f2.get, f1.get, b1]
    exact hk _ _ _ _ _ (kG.set (by omega)) ((ch.setL (by omega)).le (by omega)) ((cg.setL (by omega)).le (by omega)) co
end Go.Ah.A


namespace Go.Ah.A
open Go Go.Ah Go.Proofs
set_option linter.unusedSimpArgs false
variable {H : AHeap} {Kk : Value → AHeap → Prop}
theorem szTerminal_h {v u : Value} {vs us : List Value} {xss yss : List (List Int)} {n : Int} (h : IntsS H v vs xss) (g : IntsS H u us yss) (hk : ∀ (r : Int) H', AKeep H H' → (0 ≤ r → Small xss ∧ Small yss) → r ≤ 1048576 → Kk (.int .i64 r) H') :
    callA Try.prog 8 #[.agg #[v, .int .i64 n, u], .int .i64 1048576] H Kk := by
  refine call_go (fn := Try.f8) (rs := [.tmp 4]) [] (by kernel_rfl) rfl rfl follows (by kernel_rfl) ?_
  simp only [go_sem, seval]
  have k1 := AKeep.push H (.rw 3 [v, .int .i64 n, u])
  refine szYard_c (h.keep k1) (by omega) fun r G k2 hr hr2 => ?_
  simp only [go_sem, seval, callCond_keep k2]
  refine fork (fun h1 => ?_) (fun h1 => ?_) <;> simp only [go_sem, seval]
  · exact hk _ _ (k1.trans k2) (by omega) (by omega)
  · have h1 : ¬ r < 0 := by simpa using h1
    have e : G.get H.size = .rw 3 [v, .int .i64 n, u] := by rw [k2.get _ (by rw [size_push]; omega)]; exact get_push_same _ _
    simp only [go_sem, seval, e]
    refine szBay_c ((g.keep k1).keep k2) (by omega) fun r' G' k3 hr' hr2' => ?_
    simp only [go_sem, seval]
    refine fork (fun h2 => ?_) (fun h2 => ?_) <;> simp only [go_sem, seval]
    · exact hk _ _ ((k1.trans k2).trans k3) (by omega) (by omega)
    · refine hk _ _ ((k1.trans k2).trans k3) (fun h0 => ⟨⟨by have := (hr (by omega)).1; omega, fun i hi => by have := (hr (by omega)).2 i hi; omega⟩, ⟨by have := (hr' h0).1; omega, fun i hi => by have := (hr' h0).2 i hi; omega⟩⟩) (by omega)
theorem szOrderS_c {v : Value} {xs : List Ord} {left : Int} (h : Fl H v xs) (hl : 0 ≤ left ∧ left ≤ 1048576) (hk : ∀ r : Int, (0 ≤ r → (xs.length : Int) ≤ left) → r ≤ left → Kk (.int .i64 r) H) : callA Try.prog 30 #[v, .int .i64 left] H Kk := by
  have hb := h.lt
  unfold big at hb
  refine call_go (fn := Try.f30) (rs := [.tmp 4]) [] (by kernel_rfl) rfl rfl follows (by kernel_rfl) ?_
  simp only [go_sem, seval, fl_len h, wrap_id (n := left - xs.length) (by omega) (by omega)]
  refine fork (fun h1 => ?_) (fun h1 => ?_) <;> simp only [go_sem, seval]
  · exact hk _ (by omega) (by omega)
  · have h1 : ¬ left - xs.length < 0 := by simpa using h1
    exact hk _ (by omega) (by omega)
/-- A row written up to a place. -/
def upF (xs : List Ord) (i : Nat) : List Ord := xs.take i ++ List.replicate (xs.length - i) (0, 0, 0)
theorem upF_len {xs : List Ord} {i : Nat} (hi : i ≤ xs.length) : (upF xs i).length = xs.length := by simp [upF]; omega
theorem upF_set {xs : List Ord} {i : Nat} (hi : i < xs.length) : (upF xs i).set i (nth xs i Enc.d) = upF xs (i + 1) := by
  unfold upF
  rw [List.set_append_right _ _ (by simp; omega)]
  have e1 : xs.length - i = (xs.length - (i + 1)) + 1 := by omega
  have e2 : i - (xs.take i).length = 0 := by simp; omega
  rw [e2, e1, List.replicate_succ, List.set_cons_zero, take_succ_nth _ _ Enc.d hi, List.append_assoc]
  rfl
theorem encs_rep (n : Nat) : encs (List.replicate n ((0, 0, 0) : Ord)) = repCells [.int .i64 0, .int .i64 0, .int .i64 0] n := by
  induction n with
  | zero => rfl
  | succ n ih => rw [List.replicate_succ, encs_cons, ih, rep_succ]; rfl
set_option maxRecDepth 8000 in
theorem toOrderS_h {v : Value} {xs : List Ord} (h : Fl H v xs) (hl : xs.length ≤ 1048576) (hk : ∀ v' H', AKeep H H' → FlH H.size H' v' xs → Kk v' H') : callA Try.prog 32 #[v] H Kk := by
  have hb := h.lt
  refine call_go (fn := Try.f32) (rs := [.tmp 2]) [] (by kernel_rfl) rfl rfl follows (by kernel_rfl) ?_
  simp only [go_sem, seval, fl_len h]
  refine make_by (sz := 3) (b := 24) (z := .agg #[.int .i64 0, .int .i64 0, .int .i64 0]) (by simp only [go_sem, seval]) (by omega) (by unfold unk; omega) rfl (by omega) rfl ?_
  simp only [go_sem, seval]
  have a0 : FlH H.size (H.push (.rw 3 (repCells [.int .i64 0, .int .i64 0, .int .i64 0] xs.length))) (.slice (some ⟨H.size, 0, none⟩) xs.length xs.length) (upF xs 0) := by
    have e : upF xs 0 = List.replicate xs.length (0, 0, 0) := by simp [upF]
    rw [e]
    unfold FlH
    rw [List.length_replicate]
    have hlen : (encs (List.replicate xs.length ((0, 0, 0) : Ord))).length = xs.length * 3 := by rw [encs_len, List.length_replicate, sz_ord]
    refine ⟨hb, hlen, .inr ⟨H.size, _, _, rfl, Nat.le_refl _, by rw [size_push]; omega, get_push_same _ _, by rw [← encs_rep, hlen]; exact Nat.le_refl _, by rw [← encs_rep, List.take_of_length_le (by rw [hlen]; exact Nat.le_refl _)], by rw [← encs_rep]; exact encs_one_cell _, fun _ => ⟨Nat.le_refl _, by rw [← encs_rep, hlen]; exact Nat.le_refl _⟩, fun hu => absurd hb (by unfold unk at hu; unfold big; omega)⟩⟩
  generalize hsv : Value.slice (some ⟨H.size, 0, none⟩) xs.length xs.length = sv at a0 ⊢
  refine loopF [4, 8, 9, 10, 11, 12, 13, 14, 15, 16, 17, 18, 19, 20, 21] (by kernel_rfl) (I := fun nM σ G => ∃ i, nM = xs.length - i ∧ σ 4 = .int .i64 (i : Nat) ∧ i ≤ xs.length ∧ AKeep H G ∧ FlH H.size G sv (upF xs i)) _ ⟨0, rfl, ?s4, by omega, AKeep.push _ _, a0⟩ ?_

  case s4 => first | (simp only [go_sem, seval]; done) | (simp only [go_sem, seval]; rfl) | (simp only [go_sem, seval, *]; done) | (simp only [go_sem, seval]; simp; done)
  rintro _ σ1 _ ⟨i, rfl, s4, hi, kG, aG⟩ hs R ih
  rename_i G
  simp only [go_sem, seval, s4, hs, fl_len h]
  refine fork (fun hlt => ?_) (fun hlt => ?_)
  · have hlt : i < xs.length := (dec_lt hlt).1 rfl
    have hl2 : i < (upF xs i).length := by rw [upF_len hi]; exact hlt
    simp only [go_sem, seval, hs, s4, fl_index (h.keep kG) sz_ord, fl_load (h.keep kG) sz_ord, hlt, enc_ord]
    refine toOrder_c fun G2 k2 => ?_
    replace aG := aG.keep k2
    simp only [go_sem, seval, hs, fl_index aG.fl sz_ord, hl2]
    refine fl_put (a := nth xs i Enc.d) aG sz_ord hl2 (by simp only [go_sem, seval]) rfl fun G3 a3 z3 f3 => ?_
    simp only [go_sem, seval, s4, wrap_succ (Nat.lt_of_le_of_lt hlt hb)]
    rw [upF_set hlt] at a3
    refine ih _ (by omega) _ _ ⟨i + 1, rfl, by simp only [go_sem, seval], by omega, ?_, a3⟩
    have kk := kG.trans k2
    exact ⟨by have := kk.size; omega, fun id hid => by rw [f3 id (fun e => by have := aG.above e; omega), kk.get id hid]⟩
  · have hlt : ¬ i < xs.length := by intro h; have := (dec_lt hlt).2 h; cases this
    obtain rfl : i = xs.length := by omega
    simp only [go_sem, seval, hs]
    have e : upF xs xs.length = xs := by simp [upF]
    rw [e] at aG
    exact hk _ _ kG aG
end Go.Ah.A


namespace Go.Ah.A
open Go Go.Ah Go.Proofs
set_option linter.unusedSimpArgs false
variable {H : AHeap}
theorem rows_ords : ∀ (rows : List (List Value)), (∀ i, i < rows.length → Reads H [.int .i64, .int .i64, .int .i64] (nth rows i [])) → ∃ xs : List Ord, xs.length = rows.length ∧ rows.flatten = encs xs
  | [], _ => ⟨[], rfl, rfl⟩
  | r :: rs, h => by
    obtain ⟨xs, h1, h2⟩ := rows_ords rs (fun i hi => h (i + 1) (by simpa using hi))
    obtain ⟨a, cs, e, _, h5⟩ := reads_int (h 0 (by simp))
    obtain ⟨b, cs, rfl, _, h5⟩ := reads_int h5
    obtain ⟨c, cs, rfl, _, h5⟩ := reads_int h5
    have e2 := reads_nil h5
    subst e2
    have e : r = [.int .i64 a, .int .i64 b, .int .i64 c] := e
    subst e
    exact ⟨(a, b, c) :: xs, by simp [h1], by simp [h2, enc_ord]⟩
theorem reads_ords {ks : List CT} {cs : List Value} (h : Reads H (.sl 3 [.int .i64, .int .i64, .int .i64] :: ks) cs) : ∃ v xs cs', cs = v :: cs' ∧ Fl (α := Ord) H v xs ∧ Reads H ks cs' := by
  obtain ⟨v, cs', rows, rfl, h1, h2, h3, _⟩ := reads_sl h
  obtain ⟨xs, h4, h5⟩ := rows_ords rows fun i hi => (h2 i hi).2
  rw [h5, ← h4] at h1
  exact ⟨v, xs, cs', rfl, h1, h3⟩
set_option maxRecDepth 8000 in
set_option maxHeartbeats 2000000 in
theorem law_RunOrders {as0 : List Value} {a1 : Value} (r0 : Reads H [.sl 1 [.sl 1 [.int .i64]], .int .i64, .sl 1 [.sl 1 [.int .i64]]] as0) (r1 : Reads H [.sl 3 [.int .i64, .int .i64, .int .i64]] [a1]) :
    callA Try.prog 7 #[.agg (List.toArray as0), a1] H fun r _ => r = .bool true := by
  obtain ⟨v, vs, xss, cs, rfl, h, -, r0⟩ := reads_intss r0
  obtain ⟨q, cs, rfl, -, r0⟩ := reads_int r0
  obtain ⟨u, us, yss, cs, rfl, g, -, r0⟩ := reads_intss r0
  obtain rfl := reads_nil r0
  obtain ⟨w, xs, cs, e, l, r1⟩ := reads_ords r1
  obtain ⟨rfl, rfl⟩ : a1 = w ∧ cs = [] := by have := reads_nil r1; subst this; simpa using e
  clear r0 r1 e
  refine call_go (fn := Try.f7) (rs := [.tmp 4]) [] (by kernel_rfl) rfl rfl follows (by kernel_rfl) ?_
  simp only [go_sem, seval, push_p, pushes_p, size_p, get_p, get_p0, set_p, set_p0]
  have e0 : At (pushes H [.rw 3 [v, .int .i64 q, u]]) _ _ := At.p0
  refine szTerminal_h (h.keep keep_p) (g.keep keep_p) fun r H1 k1 hr hr2 => ?_
  replace e0 := e0.keep k1
  have kH := k1.p1
  by_cases hneg : r < 0
  · have hneg' : decide (r < 0) = true := by simpa using hneg
    simp only [go_sem, seval, hneg']
  have hneg' : decide (r < 0) = false := by simpa using hneg
  obtain ⟨hs, hs'⟩ := hr (by omega)
  simp only [go_sem, seval, hneg']
  refine szOrderS_c (l.keep kH) (by omega) fun r2 hl hl2 => ?_
  by_cases hng : r2 < 0
  · have hng' : decide (r2 < 0) = true := by simpa using hng
    simp only [go_sem, seval, hng']
  have hng' : decide (r2 < 0) = false := by simpa using hng
  have hl3 : xs.length ≤ 1048576 := by have := hl (by omega); omega
  simp only [go_sem, seval, hng', e0.get]
  refine toTerminal_c (h.keep kH) (g.keep kH) hs hs' fun v1 vs1 u1 us1 H2 k2 h2 g2 => ?_
  replace e0 := e0.keep k2
  simp only [go_sem, seval]
  refine toOrderS_h (l.keep (kH.trans k2)) hl3 fun l1 H3 k3 L1 => ?_
  replace e0 := e0.keep k3
  replace h2 := h2.keep k3
  replace g2 := g2.keep k3
  simp only [go_sem, seval]
  refine spRunOrders_c h2 g2 L1.fl hs hs' fun wv wvs wu wus H4 k4 W W' WO => ?_
  have w3 := fun id hi => W.low (id := id) hi
  have w4 := fun id hi => W'.low (id := id) hi
  replace e0 := e0.keep k4
  have kH := ((kH.trans k2).trans k3).trans k4
  obtain ⟨R, hR⟩ : ∃ R, runP xss q yss xs = R := ⟨_, rfl⟩
  obtain ⟨sy, ss⟩ := small_run (y := xss) (q := q) (s := yss) (xs := xs)
  rw [hR] at W W' sy ss
  obtain ⟨a1, m1, c1, rfl⟩ := W.top.slice
  obtain ⟨a1', m1', c1', rfl⟩ := W'.top.slice
  simp only [go_sem, seval, get_set_same, get_set_ne, Nat.add_left_cancel_iff, push_set, hR, (e0.push _).get]
  have e2 := At.new (H := H4) (.rw 3 [.slice a1 m1 c1, .int .i64 R.q, .slice a1' m1' c1'])
  replace e0 := e0.keep (AKeep.push _ (.rw 3 [.slice a1 m1 c1, .int .i64 R.q, .slice a1' m1' c1']))
  replace W := W.keep (AKeep.push _ (.rw 3 [.slice a1 m1 c1, .int .i64 R.q, .slice a1' m1' c1']))
  replace W' := W'.keep (AKeep.push _ (.rw 3 [.slice a1 m1 c1, .int .i64 R.q, .slice a1' m1' c1']))
  have kH := kH.trans (AKeep.push _ (.rw 3 [.slice a1 m1 c1, .int .i64 R.q, .slice a1' m1' c1']))
  refine toTerminal_h (h.keep kH) (g.keep kH) hs hs' fun xv xvs xu xus H5 k5 X X' XO => ?_
  replace e0 := e0.keep k5
  replace e2 := e2.keep k5
  replace W := W.keep k5
  replace W' := W'.keep k5
  have kH := kH.trans k5
  obtain ⟨a2, m2, c2, rfl⟩ := X.top.slice
  obtain ⟨a2', m2', c2', rfl⟩ := X'.top.slice
  have e3 := At.new (H := H5) (.rw 3 [.slice a2 m2 c2, .int .i64 q, .slice a2' m2' c2'])
  have x3 := fun id hi => X.low (id := id) hi
  have x4 := fun id hi => X'.low (id := id) hi
  simp only [go_sem, seval, get_set_same, get_set_ne, Nat.add_left_cancel_iff, push_set]
  replace e0 := e0.keep (AKeep.push _ (.rw 3 [.slice a2 m2 c2, .int .i64 q, .slice a2' m2' c2']))
  replace e2 := e2.keep (AKeep.push _ (.rw 3 [.slice a2 m2 c2, .int .i64 q, .slice a2' m2' c2']))
  replace W := W.keep (AKeep.push _ (.rw 3 [.slice a2 m2 c2, .int .i64 q, .slice a2' m2' c2']))
  replace W' := W'.keep (AKeep.push _ (.rw 3 [.slice a2 m2 c2, .int .i64 q, .slice a2' m2' c2']))
  replace X := X.keep (AKeep.push _ (.rw 3 [.slice a2 m2 c2, .int .i64 q, .slice a2' m2' c2']))
  replace X' := X'.keep (AKeep.push _ (.rw 3 [.slice a2 m2 c2, .int .i64 q, .slice a2' m2' c2']))
  have kH := kH.trans (AKeep.push _ (.rw 3 [.slice a2 m2 c2, .int .i64 q, .slice a2' m2' c2']))
  refine toOrderS_h (l.keep kH) hl3 fun lx H6 k6 L => ?_
  replace e0 := e0.keep k6
  replace e2 := e2.keep k6
  replace e3 := e3.keep k6
  replace W := W.keep k6
  replace W' := W'.keep k6
  replace X := X.keep k6
  replace X' := X'.keep k6
  have kH := kH.trans k6
  have l3 := fun id e => L.low (id := id) e
  have l4 := fun id e => L.above (id := id) e
  simp only [size_push] at l4
  simp only [go_sem, seval, e3.get]
  refine imRunOrders_c X.intss X'.intss L.fl hs hs' fun gv gvs gu gus H7 k7 Y Y' YO => ?_
  replace e0 := e0.keep k7
  replace e2 := e2.keep k7
  replace e3 := e3.keep k7
  replace W := W.keep k7
  replace W' := W'.keep k7
  replace X := X.keep k7
  replace X' := X'.keep k7
  replace L := L.keep k7
  rw [hR] at Y Y'
  obtain ⟨a3, m3, c3, rfl⟩ := Y.top.slice
  obtain ⟨a3', m3', c3', rfl⟩ := Y'.top.slice
  have e4 := At.new (H := H7) (.rw 3 [.slice a3 m3 c3, .int .i64 R.q, .slice a3' m3' c3'])
  have y3 := fun id hi => Y.low (id := id) hi
  have y4 := fun id hi => Y'.low (id := id) hi
  have kH := kH.trans k7
  simp only [go_sem, seval, get_set_same, get_set_ne, Nat.add_left_cancel_iff, push_set, hR, (e2.push _).get]
  replace e0 := e0.keep (AKeep.push _ (.rw 3 [.slice a3 m3 c3, .int .i64 R.q, .slice a3' m3' c3']))
  replace e2 := e2.keep (AKeep.push _ (.rw 3 [.slice a3 m3 c3, .int .i64 R.q, .slice a3' m3' c3']))
  replace e3 := e3.keep (AKeep.push _ (.rw 3 [.slice a3 m3 c3, .int .i64 R.q, .slice a3' m3' c3']))
  replace W := W.keep (AKeep.push _ (.rw 3 [.slice a3 m3 c3, .int .i64 R.q, .slice a3' m3' c3']))
  replace W' := W'.keep (AKeep.push _ (.rw 3 [.slice a3 m3 c3, .int .i64 R.q, .slice a3' m3' c3']))
  replace X := X.keep (AKeep.push _ (.rw 3 [.slice a3 m3 c3, .int .i64 R.q, .slice a3' m3' c3']))
  replace X' := X'.keep (AKeep.push _ (.rw 3 [.slice a3 m3 c3, .int .i64 R.q, .slice a3' m3' c3']))
  replace L := L.keep (AKeep.push _ (.rw 3 [.slice a3 m3 c3, .int .i64 R.q, .slice a3' m3' c3']))
  replace Y := Y.keep (AKeep.push _ (.rw 3 [.slice a3 m3 c3, .int .i64 R.q, .slice a3' m3' c3']))
  replace Y' := Y'.keep (AKeep.push _ (.rw 3 [.slice a3 m3 c3, .int .i64 R.q, .slice a3' m3' c3']))
  have kH := kH.trans (AKeep.push _ (.rw 3 [.slice a3 m3 c3, .int .i64 R.q, .slice a3' m3' c3']))
  refine eqTerminal_c Y.intss Y'.intss W.intss W'.intss fun H8 k8 => ?_
  replace e0 := e0.keep k8
  replace e2 := e2.keep k8
  replace e3 := e3.keep k8
  replace e4 := e4.keep k8
  replace W := W.keep k8
  replace W' := W'.keep k8
  replace X := X.keep k8
  replace X' := X'.keep k8
  replace L := L.keep k8
  replace Y := Y.keep k8
  replace Y' := Y'.keep k8
  have kH := kH.trans k8
  simp only [go_sem, seval, e0.get, e3.get]
  refine toTerminal_c (h.keep kH) (g.keep kH) hs hs' fun v3 vs3 u3 us3 H9 k9 h9 g9 => ?_
  replace e0 := e0.keep k9
  replace e2 := e2.keep k9
  replace e3 := e3.keep k9
  replace e4 := e4.keep k9
  replace W := W.keep k9
  replace W' := W'.keep k9
  replace X := X.keep k9
  replace X' := X'.keep k9
  replace L := L.keep k9
  replace Y := Y.keep k9
  replace Y' := Y'.keep k9
  simp only [go_sem, seval]
  refine ⟨callCond_keep k9, eqTerminal_c X.intss X'.intss h9 g9 fun H10 k10 => ?_⟩
  replace e0 := e0.keep k10
  replace e2 := e2.keep k10
  replace e3 := e3.keep k10
  replace e4 := e4.keep k10
  replace W := W.keep k10
  replace W' := W'.keep k10
  replace X := X.keep k10
  replace X' := X'.keep k10
  replace L := L.keep k10
  replace Y := Y.keep k10
  replace Y' := Y'.keep k10
  have kH := (kH.trans k9).trans k10
  simp only [go_sem, seval]
  refine ⟨callCond_keep k10, ?_⟩
  refine toOrderS_h (l.keep kH) hl3 fun l5 H11 k11 L5 => ?_
  replace e0 := e0.keep k11
  replace e2 := e2.keep k11
  replace e3 := e3.keep k11
  replace e4 := e4.keep k11
  replace W := W.keep k11
  replace W' := W'.keep k11
  replace X := X.keep k11
  replace X' := X'.keep k11
  replace L := L.keep k11
  replace Y := Y.keep k11
  replace Y' := Y'.keep k11
  simp only [go_sem, seval]
  refine eqOrderS_c L.fl L5.fl fun H12 k12 => ?_
  replace e0 := e0.keep k12
  replace e2 := e2.keep k12
  replace e3 := e3.keep k12
  replace e4 := e4.keep k12
  replace W := W.keep k12
  replace W' := W'.keep k12
  replace X := X.keep k12
  replace X' := X'.keep k12
  replace L := L.keep k12
  replace Y := Y.keep k12
  replace Y' := Y'.keep k12
  have kH := (kH.trans k11).trans k12
  simp only [go_sem, seval, e3.get]
  have z1 := k1.size; have z2 := k2.size; have z3 := k3.size; have z4 := k4.size; have z5 := k5.size; have z6 := k6.size; have z7 := k7.size; have z8 := k8.size; have z9 := k9.size; have z10 := k10.size; have z11 := k11.size; have z12 := k12.size
  simp only [size_p, size_push, List.length_cons, List.length_nil] at z1 z2 z3 z4 z5 z6 z7 z8 z9 z10 z11 z12
  have lx' := fun id hi => X.above (id := id) hi
  have lx2 := fun id hi => X'.above (id := id) hi
  have ly := fun id hi => Y.above (id := id) hi
  have ly' := fun id hi => Y'.above (id := id) hi
  simp only [size_push] at lx' lx2
  refine markTerminal_c X X' XO hs hs' (by omega) (by omega) fun H13 _ _ zs hf => ?_
  have out : ∀ id, id < H12.size → id ≤ H4.size ∨ H5.size ≤ id → H13.get id = H12.get id := fun id h1 h2 => hf id h1 (fun e => by have := lx' id e; have := x3 id e; omega) (fun e => by have := lx2 id e; have := x4 id e; omega)
  replace e0 := e0.of (out _ e0.lt (by omega)) zs
  replace e2 := e2.of (out _ e2.lt (by omega)) zs
  replace e4 := e4.of (out _ e4.lt (by omega)) zs
  replace kH : AKeep H H13 := ⟨by have := kH.size; omega, fun id hi => by rw [out id (by have := kH.size; omega) (by omega), kH.get id hi]⟩
  replace W := W.keepF zs fun id hi => out id (W.low hi) (by have := w3 id hi; omega)
  replace W' := W'.keepF zs fun id hi => out id (W'.low hi) (by have := w4 id hi; omega)
  replace Y := Y.keepF zs fun id hi => out id (Y.low hi) (by have := ly id hi; omega)
  replace Y' := Y'.keepF zs fun id hi => out id (Y'.low hi) (by have := ly' id hi; omega)
  replace L := L.keepF zs fun id hi => out id (L.low hi) (by have := l4 id hi; omega)
  have t1 := small_total hs
  have t2 := small_total hs'
  simp only [go_sem, seval]
  refine markOrderS_c L hl3 (by omega) (by omega) fun H14 _ zs2 hf2 => ?_
  have out2 : ∀ id, id ≤ H5.size ∨ H6.size ≤ id → H14.get id = H13.get id := fun id h2 => hf2 id (fun e => by have := l3 id e; have := l4 id e; omega)
  replace e0 := e0.of (out2 _ (by omega)) (by omega)
  replace e2 := e2.of (out2 _ (by omega)) (by omega)
  replace e4 := e4.of (out2 _ (by omega)) (by omega)
  replace kH : AKeep H H14 := ⟨by have := kH.size; omega, fun id hi => by rw [out2 id (by omega), kH.get id hi]⟩
  replace W := W.keepF (by omega) fun id hi => out2 id (by have := w3 id hi; omega)
  replace W' := W'.keepF (by omega) fun id hi => out2 id (by have := w4 id hi; omega)
  replace Y := Y.keepF (by omega) fun id hi => out2 id (by have := ly id hi; omega)
  replace Y' := Y'.keepF (by omega) fun id hi => out2 id (by have := ly' id hi; omega)
  have hp : decide ((1 : Int) + (total xss : Int) + (total yss : Int) + 3 * (xs.length : Int) < 0) = false := by simp; omega
  simp only [go_sem, seval, hp, e2.get, e4.get]
  refine eqTerminal_c Y.intss Y'.intss W.intss W'.intss fun H15 k15 => ?_
  replace e0 := e0.keep k15
  replace e2 := e2.keep k15
  replace e4 := e4.keep k15
  replace W := W.keep k15
  replace W' := W'.keep k15
  replace Y := Y.keep k15
  replace Y' := Y'.keep k15
  have kH := kH.trans k15
  have z15 := k15.size
  simp only [go_sem, seval, e4.get]
  refine markTerminal_c Y Y' YO sy ss (by omega) (by omega) fun H16 Y2 Y2' zs3 hf3 => ?_
  have out3 : ∀ id, id < H15.size → id < H6.size ∨ H7.size ≤ id → H16.get id = H15.get id := fun id h1 h2 => hf3 id h1 (fun e => by have := ly id e; have := y3 id e; omega) (fun e => by have := ly' id e; have := y4 id e; omega)
  replace e0 := e0.of (out3 _ e0.lt (by omega)) zs3
  replace e2 := e2.of (out3 _ e2.lt (by omega)) zs3
  replace e4 := e4.of (out3 _ e4.lt (by omega)) zs3
  replace kH : AKeep H H16 := ⟨by have := kH.size; omega, fun id hi => by rw [out3 id (by have := kH.size; omega) (by omega), kH.get id hi]⟩
  replace W := W.keepF zs3 fun id hi => out3 id (W.low hi) (by have := w3 id hi; omega)
  replace W' := W'.keepF zs3 fun id hi => out3 id (W'.low hi) (by have := w4 id hi; omega)
  simp only [go_sem, seval, e4.get]
  refine heldTerminal_c Y2.intss Y2'.intss sy ss (by omega) (by omega) fun H17 k17 => ?_
  replace e0 := e0.keep k17
  replace e2 := e2.keep k17
  replace e4 := e4.keep k17
  replace W := W.keep k17
  replace W' := W'.keep k17
  replace Y2 := Y2.keep k17
  replace Y2' := Y2'.keep k17
  have kH := kH.trans k17
  have hp2 : decide ((1 : Int) + (total R.y : Int) + (total R.s : Int) < 0) = false := by simp; omega
  simp only [go_sem, seval, hp2, e0.get]
  refine toTerminal_c (h.keep kH) (g.keep kH) hs hs' fun v4 vs4 u4 us4 H18 k18 h18 g18 => ?_
  replace e0 := e0.keep k18
  replace e2 := e2.keep k18
  replace e4 := e4.keep k18
  replace W := W.keep k18
  replace W' := W'.keep k18
  replace Y2 := Y2.keep k18
  replace Y2' := Y2'.keep k18
  simp only [go_sem, seval]
  refine toOrderS_h (l.keep (kH.trans k18)) hl3 fun l6 H19 k19 L6 => ?_
  replace e0 := e0.keep k19
  replace e2 := e2.keep k19
  replace e4 := e4.keep k19
  replace W := W.keep k19
  replace W' := W'.keep k19
  replace Y2 := Y2.keep k19
  replace Y2' := Y2'.keep k19
  replace h18 := h18.keep k19
  replace g18 := g18.keep k19
  simp only [go_sem, seval]
  refine imRunOrders_c h18 g18 L6.fl hs hs' fun hv hvs hu hus H20 k20 Z Z' ZO => ?_
  replace e2 := e2.keep k20
  replace e4 := e4.keep k20
  replace W := W.keep k20
  replace W' := W'.keep k20
  replace Y2 := Y2.keep k20
  replace Y2' := Y2'.keep k20
  rw [hR] at Z Z'
  obtain ⟨a4, m4, c4, rfl⟩ := Z.top.slice
  obtain ⟨a4', m4', c4', rfl⟩ := Z'.top.slice
  simp only [go_sem, seval, get_set_same, get_set_ne, Nat.add_left_cancel_iff, push_set, hR, (e2.push _).get, (At.new _).get]
  replace e4 := e4.keep (AKeep.push _ (.rw 3 [.slice a4 m4 c4, .int .i64 R.q, .slice a4' m4' c4']))
  replace W := W.keep (AKeep.push _ (.rw 3 [.slice a4 m4 c4, .int .i64 R.q, .slice a4' m4' c4']))
  replace W' := W'.keep (AKeep.push _ (.rw 3 [.slice a4 m4 c4, .int .i64 R.q, .slice a4' m4' c4']))
  replace Y2 := Y2.keep (AKeep.push _ (.rw 3 [.slice a4 m4 c4, .int .i64 R.q, .slice a4' m4' c4']))
  replace Y2' := Y2'.keep (AKeep.push _ (.rw 3 [.slice a4 m4 c4, .int .i64 R.q, .slice a4' m4' c4']))
  replace Z := Z.keep (AKeep.push _ (.rw 3 [.slice a4 m4 c4, .int .i64 R.q, .slice a4' m4' c4']))
  replace Z' := Z'.keep (AKeep.push _ (.rw 3 [.slice a4 m4 c4, .int .i64 R.q, .slice a4' m4' c4']))
  refine eqTerminal_c Z.intss Z'.intss W.intss W'.intss fun H21 k21 => ?_
  replace e4 := e4.keep k21
  replace Y2 := Y2.keep k21
  replace Y2' := Y2'.keep k21
  simp only [go_sem, seval, e4.get]
  refine heldTerminal_c Y2.intss Y2'.intss sy ss (by omega) (by omega) fun H22 k22 => ?_
  simp only [go_sem, seval, hp2]
end Go.Ah.A


namespace Go.Ah.A.fnExactRunOrders
open Go Go.Ah Go.Proofs Go.Proofs.Ytkkdmegmdcmeaaa
open Go.ChangeShapes Go.WideShapes Go.ChangeAt Go.RowKit
set_option linter.unusedVariables false
theorem own : ownKnob Try.prog.godebug = none := by kernel_rfl
theorem laidOut : laidOutB Try.prog = true := by kernel_rfl
set_option maxRecDepth 100000 in
theorem lifted (os : Os) (started : os.Started) (H : Type) (enc : TypeId × Value → H) :
    ReturnsInHanded {} Try.checked os 7 .any (Rows.fnExactRunOrdersSpec.pre6 enc Try.prog Try.f7 Rows.fnExactRunOrdersRow.domain false) (Rows.fnExactRunOrdersSpec.post enc Try.prog Try.f7 false true false false) := by
  refine returnsInHanded_of_change_sized (C := Try.checked) own started (by kernel_rfl) Try.func7
    (ChangeSpec.witness6 (enc := enc) (C := Try.checked) false ⟨#[], #[.agg #[.slice none 0 0, .int .i64 0, .slice none 0 0], .slice none 0 0], []⟩ 8 (by kernel_rfl) (by kernel_rfl) (by kernel_rfl) (by kernel_rfl)) ?_
  intro W base args ds gs before hval0 hW hcnd hsz0 _
  have hval : ∀ (j : Nat) t v, Try.f7.params[j]? = some t → args[j]? = some v → Value.okWide Try.prog W .any base t v := hval0
  have hW' := hW
  obtain ⟨p, q, hA0, hV, rfl, hfz, hnd⟩ := hW
  have hA : DataW.TrodAll enc Try.prog W 0 (fun _ => true) true Try.f7.params.toList args.toList ds p := hA0
  rw [Try.params7] at hA hval
  obtain ⟨v0, vs0, d0, ds0, p0, q0, hargs, rfl, rfl, h0, hr0⟩ := trodAll_cons hA
  obtain ⟨v1, vs1, d1, ds1, p1, q1, rfl, rfl, rfl, h1, hr1⟩ := trodAll_cons hr0
  obtain ⟨rfl, rfl, rfl⟩ := trodAll_nil hr1
  obtain rfl : args = #[v0, v1] := by cases args; simp_all
  obtain ⟨rfl, rfl⟩ := trodVars_none hV
  have k0 := h0
  have lt0 : ∀ x ∈ p0, x.block < W.heap.size := by obtain ⟨m, hm⟩ := k0; exact DataW.trod_lt m _ _ _ hm
  have k1 := h1
  have lt1 : ∀ x ∈ p1, x.block < W.heap.size := by obtain ⟨m, hm⟩ := k1; exact DataW.trod_lt m _ _ _ hm
  obtain ⟨i1, i2, i3⟩ := opened_nil (W := W)
  obtain ⟨m0, A0, as0, o0, e0, g0⟩ := open_struct (n := 8) Try.underlying28 (by kernel_rfl) (hval 0 28 v0 rfl rfl) h0 i1 i2 i3
  obtain ⟨m1, A1, a1, o1, e1, g1⟩ := open_slice (n := 8) Try.underlying60 (by kernel_rfl) (hval 1 60 v1 rfl rfl) h1 o0.1 o0.2.2.1 o0.2.2.2.1
  have hv : VRels m1 #[.agg (List.toArray as0), a1] #[v0, v1] := VRelL.array (((VRelL.nil _).cons e1).cons (e0.mono o1.2.1))
  refine (calls_of Try.func7 rfl (by kernel_rfl) (law_RunOrders (g0.keep o1.2.2.2.2) g1) o1.1 o1.2.2.1 o1.2.2.2.1 hv).mono fun e W' ⟨v, v', he, ⟨m', A', hk, hvr⟩, bel⟩ => ?_
  subst hk
  cases hvr
  subst he
  exact ⟨_, rfl, _, _, _, [], _, [], hW', trodAll_mk1 (shut_bool Try.underlying4 _), trodAll_cons_mk (Below.trod laidOut (by kernel_rfl) (of_decide_eq_true (by kernel_rfl)) k0 bel lt0) (trodAll_cons_mk (Below.trod laidOut (by kernel_rfl) (of_decide_eq_true (by kernel_rfl)) k1 bel lt1) (trodAll_mk0)), rfl, bel.frame _, fun h => by cases h⟩
theorem over : Rows.fnExactRunOrdersRow.holds Try.pinned (OpenSpec.ofChange Rows.fnExactRunOrdersSpec) :=
  OpenClaim.holds_of_wide 7 Try.f7 rfl rfl rfl rfl rfl rfl rfl ⟨rfl, rfl, rfl, rfl, rfl⟩ rfl rfl rfl rfl rfl (by kernel_rfl) Try.func7 (by kernel_rfl)
    (of_decide_eq_true (by kernel_rfl)) (by unfold Func.isWrapper; first | (rw [if_pos (by decide +kernel)]; kernel_rfl) | (rw [if_neg (by decide +kernel)]; exact ⟨rfl, rfl⟩))
    (fun os started H enc _ => lifted os started H enc)
theorem proved : Rows.FnExactRunOrdersSaid := over
end Go.Ah.A.fnExactRunOrders

namespace Go.Proofs.Ytkkdmegmdcmeaaa
open Go Go.Proofs.Ytkkdmegmdcmeaaa
theorem fnExactRunOrders_holds : Rows.FnExactRunOrdersSaid := Go.Ah.A.fnExactRunOrders.over
#print axioms fnExactRunOrders_holds
end Go.Proofs.Ytkkdmegmdcmeaaa
