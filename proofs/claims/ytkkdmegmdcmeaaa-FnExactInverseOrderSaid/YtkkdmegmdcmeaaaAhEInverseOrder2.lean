/- The law FnExactInverseOrder: for all arguments InverseOrder of the program returns what the reference returns, and leaves its arguments as they are. No condition. -/
import Derived.Test.YtkkdmegmdcmeaaaAhEInverseOrder1
set_option linter.all false
namespace Go.Ah.A
open Go Go.Ah Go.Proofs
set_option linter.unusedSimpArgs false
variable {H : AHeap} {Kk : Value → AHeap → Prop}
theorem take_succ_nth {α : Type} (xs : List α) (i : Nat) (d : α) (h : i < xs.length) : xs.take (i + 1) = xs.take i ++ [nth xs i d] := by
  rw [List.take_succ_eq_append_getElem h]; simp [nth, List.getD_eq_getElem?_getD, h]
set_option maxRecDepth 8000 in
theorem ownYard_c {v : Value} {vs : List Value} {xss : List (List Int)} (h : IntsS H v vs xss) (hs0 : Small xss) (hk : ∀ v' vs' H', AKeep H H' → OwnSS H.size H' v' vs' xss → Kk (.agg #[v']) H') : callA Try.prog 77 #[.agg #[v]] H Kk := by
  have hb := h.lt
  refine call_go (fn := Try.f77) (rs := [.cell 2 35]) [] (by kernel_rfl) rfl rfl follows (by kernel_rfl) ?_
  simp only [go_sem, seval, push_p, pushes_p, size_p, get_p, get_p0, set_p, set_p0, intss_len h]
  have g0 := h.keep (keep_p (l := [.rw 1 [v], .rw 1 [.slice none 0 0], .rw 1 [], .rw 1 [.slice (some ⟨H.size + 2, 0, none⟩) 0 0]]))
  refine loopF [5, 11, 12, 13, 14, 15, 16, 17, 18, 19, 20, 21, 22] (by kernel_rfl) (I := fun n σ G => ∃ i sv us, n = xss.length - i ∧ σ 11 = .int .i64 (i : Nat) ∧ i ≤ xss.length ∧ AKeep H G ∧ H.size + 3 < G.size ∧ G.get H.size = .rw 1 [v] ∧ G.get (H.size + 1) = .rw 1 [.slice none 0 0] ∧ G.get (H.size + 3) = .rw 1 [sv] ∧ OwnSS (H.size + 2) G sv us (xss.take i) ∧ idOf sv ≠ some (H.size + 3) ∧ (∀ j, j < i → idOf (nth us j undef) ≠ some (H.size + 3))) _ ⟨0, .slice (some ⟨H.size + 2, 0, none⟩) 0 0, [], rfl, ?s11, by omega, keep_p, by rw [size_p]; simp, by rw [get_p0]; rfl, by rw [get_p]; rfl, by rw [get_p]; rfl, ⟨.inr ⟨by unfold big; simp, H.size + 2, 0, rfl, by omega, by rw [size_p]; simp, by rw [get_p]; rfl, by simp, rfl, .inl rfl⟩, by simp, fun i hi => by simp at hi, fun i id hi => by simp at hi, fun i j id hi => by simp at hi⟩, by intro e; simp [idOf] at e, fun j hj => by omega⟩ ?_

  case s11 => first | (simp only [go_sem, seval]; done) | (simp only [go_sem, seval]; rfl) | (simp only [go_sem, seval, *]; done)
  rintro _ σ1 _ ⟨i, sv, us, rfl, s11, hi, kG, hsz, e0, e1, e3, ho, hn1, hn2⟩ hs R ih
  rename_i G
  have g := h.keep kG
  simp only [go_sem, seval, s11, hs]
  refine fork (fun hlt => ?_) (fun hlt => ?_)
  · have hlt : i < xss.length := (dec_lt hlt).1 rfl
    simp only [go_sem, seval, hs, s11, intss_index g, intss_load g, hlt, e3]
    refine clone_c (g.2.2 i hlt) (hs0.2 i hlt) fun u G1 k1 hu => ?_
    obtain ⟨a, m, c, rfl⟩ := hu.row.slice
    have hl6 := hs0.1
    have htl : (xss.take i).length = i := by simp; omega
    simp only [go_sem, seval]
    refine ⟨callCond_keep k1, ownSS_push ho (k1.trans (AKeep.push _ _)) (by omega) (hu.keep (AKeep.push _ _)) rfl (by rw [htl]; omega) (by rw [htl]; unfold big; omega) fun v' vs' G' ho' hs' hf hid hn => ?_⟩
    rw [size_push] at hs'
    have := k1.size
    have old : ∀ id, id < G.size → idOf sv ≠ some id → G'.get id = G.get id := fun id h1 h2 => by
      rw [hf id (by rw [size_push]; omega) h2, get_push_lt _ _ _ (by omega), k1.get id h1]
    have e3' : G'.get (H.size + 3) = .rw 1 [sv] := by rw [old _ (by omega) hn1, e3]
    obtain ⟨a', m', c', rfl⟩ := ho'.top.row.slice
    simp only [go_sem, seval, e3', hs, s11, wrap_succ (Nat.lt_of_le_of_lt hlt hb)]
    have nv : idOf (.slice a' m' c') ≠ some (H.size + 3) := by rw [hid, size_push]; simp; omega
    have nr : ∀ j, j < i + 1 → idOf (nth vs' j undef) ≠ some (H.size + 3) := fun j hj e => by
      rw [htl] at hn
      rcases hn j hj _ e with h1 | h1
      · exact hn2 j h1.1 h1.2
      · omega
    rw [← take_succ_nth _ _ _ hlt] at ho'
    have ab := fun id => ho.top.above id
    refine ⟨callCond_bar (by kernel_rfl), ?_⟩
    refine ih _ (by omega) _ _ ⟨i + 1, _, vs', rfl, by simp only [go_sem, seval], by omega, ?_, by rw [size_set]; omega, ?_, ?_, by rw [get_set_same _ _ _ (by omega)], ho'.setN nv (fun j hj => nr j (by simp at hj; omega)), nv, nr⟩
    · refine AKeep.set ⟨by have := kG.size; omega, fun id hid => ?_⟩ (by omega)
      rw [old id (by have := kG.size; omega) (fun e => by have := ab _ e; omega), kG.get id hid]
    · rw [get_set_ne _ _ _ _ (by omega), old _ (by omega) (fun e => by have := ab _ e; omega), e0]
    · rw [get_set_ne _ _ _ _ (by omega), old _ (by omega) (fun e => by have := ab _ e; omega), e1]
  · have hlt : ¬ i < xss.length := by intro h; have := (dec_lt hlt).2 h; cases this
    obtain rfl : i = xss.length := by omega
    obtain ⟨a, m, c, rfl⟩ := ho.top.row.slice
    have b3 : H.size + 1 < G.size := by omega
    simp only [go_sem, seval, hs, e3, e1, get_set_same _ _ _ b3]
    rw [List.take_of_length_le (Nat.le_refl _)] at ho
    exact hk _ us _ (AKeep.set (k := H.size + 1) kG (by omega)) ((ho.set (by omega)).le (by omega))
end Go.Ah.A


namespace Go.Ah.A
open Go Go.Ah Go.Proofs
set_option linter.unusedSimpArgs false
variable {H : AHeap} {Kk : Value → AHeap → Prop}
set_option maxRecDepth 8000 in
theorem ownBay_c {v : Value} {q : Int} {vs : List Value} {xss : List (List Int)} (h : IntsS H v vs xss) (hs0 : Small xss) (hk : ∀ v' vs' H', AKeep H H' → OwnSS H.size H' v' vs' xss → Kk (.agg #[.int .i64 q, v']) H') : callA Try.prog 78 #[.agg #[.int .i64 q, v]] H Kk := by
  have hb := h.lt
  refine call_go (fn := Try.f78) (rs := [.cell 2 36]) [] (by kernel_rfl) rfl rfl follows (by kernel_rfl) ?_
  simp only [go_sem, seval, push_p, pushes_p, size_p, get_p, get_p0, set_p, set_p0, intss_len h]
  have g0 := h.keep (keep_p (l := [.rw 2 [.int .i64 q, v], .rw 2 [.int .i64 0, .slice none 0 0], .rw 1 [], .rw 2 [.int .i64 q, .slice (some ⟨H.size + 2, 0, none⟩) 0 0]]))
  refine loopF [5, 13, 14, 15, 16, 17, 18, 19, 20, 21, 22, 23, 24] (by kernel_rfl) (I := fun n σ G => ∃ i sv us, n = xss.length - i ∧ σ 13 = .int .i64 (i : Nat) ∧ i ≤ xss.length ∧ AKeep H G ∧ H.size + 3 < G.size ∧ G.get H.size = .rw 2 [.int .i64 q, v] ∧ G.get (H.size + 1) = .rw 2 [.int .i64 0, .slice none 0 0] ∧ G.get (H.size + 3) = .rw 2 [.int .i64 q, sv] ∧ OwnSS (H.size + 2) G sv us (xss.take i) ∧ idOf sv ≠ some (H.size + 3) ∧ (∀ j, j < i → idOf (nth us j undef) ≠ some (H.size + 3))) _ ⟨0, .slice (some ⟨H.size + 2, 0, none⟩) 0 0, [], rfl, ?s13, by omega, keep_p, by rw [size_p]; simp, by rw [get_p0]; rfl, by rw [get_p]; rfl, by rw [get_p]; rfl, ⟨.inr ⟨by unfold big; simp, H.size + 2, 0, rfl, by omega, by rw [size_p]; simp, by rw [get_p]; rfl, by simp, rfl, .inl rfl⟩, by simp, fun i hi => by simp at hi, fun i id hi => by simp at hi, fun i j id hi => by simp at hi⟩, by intro e; simp [idOf] at e, fun j hj => by omega⟩ ?_

  case s13 => first | (simp only [go_sem, seval]; done) | (simp only [go_sem, seval]; rfl) | (simp only [go_sem, seval, *]; done)
  rintro _ σ1 _ ⟨i, sv, us, rfl, s13, hi, kG, hsz, e0, e1, e3, ho, hn1, hn2⟩ hs R ih
  rename_i G
  have g := h.keep kG
  simp only [go_sem, seval, s13, hs]
  refine fork (fun hlt => ?_) (fun hlt => ?_)
  · have hlt : i < xss.length := (dec_lt hlt).1 rfl
    simp only [go_sem, seval, hs, s13, intss_index g, intss_load g, hlt, e3]
    refine clone_c (g.2.2 i hlt) (hs0.2 i hlt) fun u G1 k1 hu => ?_
    obtain ⟨a, m, c, rfl⟩ := hu.row.slice
    have hl6 := hs0.1
    have htl : (xss.take i).length = i := by simp; omega
    simp only [go_sem, seval]
    refine ⟨callCond_keep k1, ownSS_push ho (k1.trans (AKeep.push _ _)) (by omega) (hu.keep (AKeep.push _ _)) rfl (by rw [htl]; omega) (by rw [htl]; unfold big; omega) fun v' vs' G' ho' hs' hf hid hn => ?_⟩
    rw [size_push] at hs'
    have := k1.size
    have old : ∀ id, id < G.size → idOf sv ≠ some id → G'.get id = G.get id := fun id h1 h2 => by
      rw [hf id (by rw [size_push]; omega) h2, get_push_lt _ _ _ (by omega), k1.get id h1]
    have e3' : G'.get (H.size + 3) = .rw 2 [.int .i64 q, sv] := by rw [old _ (by omega) hn1, e3]
    obtain ⟨a', m', c', rfl⟩ := ho'.top.row.slice
    simp only [go_sem, seval, e3', hs, s13, wrap_succ (Nat.lt_of_le_of_lt hlt hb)]
    have nv : idOf (.slice a' m' c') ≠ some (H.size + 3) := by rw [hid, size_push]; simp; omega
    have nr : ∀ j, j < i + 1 → idOf (nth vs' j undef) ≠ some (H.size + 3) := fun j hj e => by
      rw [htl] at hn
      rcases hn j hj _ e with h1 | h1
      · exact hn2 j h1.1 h1.2
      · omega
    rw [← take_succ_nth _ _ _ hlt] at ho'
    have ab := fun id => ho.top.above id
    refine ⟨callCond_bar (by kernel_rfl), ?_⟩
    refine ih _ (by omega) _ _ ⟨i + 1, _, vs', rfl, by simp only [go_sem, seval], by omega, ?_, by rw [size_set]; omega, ?_, ?_, by rw [get_set_same _ _ _ (by omega)], ho'.setN nv (fun j hj => nr j (by simp at hj; omega)), nv, nr⟩
    · refine AKeep.set ⟨by have := kG.size; omega, fun id hid => ?_⟩ (by omega)
      rw [old id (by have := kG.size; omega) (fun e => by have := ab _ e; omega), kG.get id hid]
    · rw [get_set_ne _ _ _ _ (by omega), old _ (by omega) (fun e => by have := ab _ e; omega), e0]
    · rw [get_set_ne _ _ _ _ (by omega), old _ (by omega) (fun e => by have := ab _ e; omega), e1]
  · have hlt : ¬ i < xss.length := by intro h; have := (dec_lt hlt).2 h; cases this
    obtain rfl : i = xss.length := by omega
    obtain ⟨a, m, c, rfl⟩ := ho.top.row.slice
    have b3 : H.size + 1 < G.size := by omega
    simp only [go_sem, seval, hs, e3, e1, get_set_same _ _ _ b3]
    rw [List.take_of_length_le (Nat.le_refl _)] at ho
    exact hk _ us _ (AKeep.set (k := H.size + 1) kG (by omega)) ((ho.set (by omega)).le (by omega))
set_option maxRecDepth 8000 in
theorem l5Own_c {v : Value} {vs : List Value} {xss : List (List Int)} (h : IntsS H v vs xss) (hs0 : Small xss) (hk : ∀ v' vs' H', AKeep H H' → OwnSS H.size H' v' vs' xss → Kk (.agg #[v']) H') : callA Try.prog 75 #[.agg #[v]] H Kk := by
  have hb := h.lt
  refine call_go (fn := Try.f75) (rs := [.cell 2 35]) [] (by kernel_rfl) rfl rfl follows (by kernel_rfl) ?_
  simp only [go_sem, seval, push_p, pushes_p, size_p, get_p, get_p0, set_p, set_p0, intss_len h]
  have g0 := h.keep (keep_p (l := [.rw 1 [v], .rw 1 [.slice none 0 0], .rw 1 [.slice none 0 0]]))
  refine loopF [4, 6, 7, 8, 9, 10, 11, 12, 13, 14, 15, 16, 17, 18, 19, 20, 21, 22, 23] (by kernel_rfl) (I := fun n σ G => ∃ i sv us, n = xss.length - i ∧ σ 4 = .int .i64 (i : Nat) ∧ i ≤ xss.length ∧ AKeep H G ∧ H.size + 2 < G.size ∧ G.get H.size = .rw 1 [v] ∧ G.get (H.size + 1) = .rw 1 [.slice none 0 0] ∧ G.get (H.size + 2) = .rw 1 [sv] ∧ OwnSS (H.size + 3) G sv us (xss.take i) ∧ idOf sv ≠ some (H.size + 2) ∧ (∀ j, j < i → idOf (nth us j undef) ≠ some (H.size + 2))) _ ⟨0, .slice none 0 0, [], rfl, ?s4, by omega, keep_p, by rw [size_p]; simp, by rw [get_p0]; rfl, by rw [get_p]; rfl, by rw [get_p]; rfl, ⟨.inl ⟨rfl, rfl, rfl⟩, by simp, fun i hi => by simp at hi, fun i id hi => by simp at hi, fun i j id hi => by simp at hi⟩, by intro e; simp [idOf] at e, fun j hj => by omega⟩ ?_

  case s4 => first | (simp only [go_sem, seval]; done) | (simp only [go_sem, seval]; rfl) | (simp only [go_sem, seval, *]; done)
  rintro _ σ1 _ ⟨i, sv, us, rfl, s4, hi, kG, hsz, e0, e1, e3, ho, hn1, hn2⟩ hs R ih
  rename_i G
  have g := h.keep kG
  simp only [go_sem, seval, s4, hs, e0, intss_len h]
  refine fork (fun hlt => ?_) (fun hlt => ?_)
  · have hlt : i < xss.length := (dec_lt hlt).1 rfl
    simp only [go_sem, seval, hs, s4, e0, intss_index g, intss_load g, hlt, e3]
    refine l1Own_c (g.2.2 i hlt) (hs0.2 i hlt) fun u G1 k1 hu0 => ?_
    have hu := OwnN.of hu0
    obtain ⟨a, m, c, rfl⟩ := hu.row.slice
    have hl6 := hs0.1
    have htl : (xss.take i).length = i := by simp; omega
    simp only [go_sem, seval]
    refine ⟨callCond_keep k1, ownSS_push ho (k1.trans (AKeep.push _ _)) (by omega) (hu.keep (AKeep.push _ _)) rfl (by rw [htl]; omega) (by rw [htl]; unfold big; omega) fun v' vs' G' ho' hs' hf hid hn => ?_⟩
    rw [size_push] at hs'
    have := k1.size
    have old : ∀ id, id < G.size → idOf sv ≠ some id → G'.get id = G.get id := fun id h1 h2 => by
      rw [hf id (by rw [size_push]; omega) h2, get_push_lt _ _ _ (by omega), k1.get id h1]
    have e3' : G'.get (H.size + 2) = .rw 1 [sv] := by rw [old _ (by omega) hn1, e3]
    obtain ⟨a', m', c', rfl⟩ := ho'.top.row.slice
    simp only [go_sem, seval, e3', hs, s4, wrap_succ (Nat.lt_of_le_of_lt hlt hb)]
    have nv : idOf (.slice a' m' c') ≠ some (H.size + 2) := by rw [hid, size_push]; simp; omega
    have nr : ∀ j, j < i + 1 → idOf (nth vs' j undef) ≠ some (H.size + 2) := fun j hj e => by
      rw [htl] at hn
      rcases hn j hj _ e with h1 | h1
      · exact hn2 j h1.1 h1.2
      · omega
    rw [← take_succ_nth _ _ _ hlt] at ho'
    have ab := fun id => ho.top.above id
    refine ⟨callCond_bar (by kernel_rfl), ?_⟩
    refine ih _ (by omega) _ _ ⟨i + 1, _, vs', rfl, by simp only [go_sem, seval], by omega, ?_, by rw [size_set]; omega, ?_, ?_, by rw [get_set_same _ _ _ (by omega)], ho'.setN nv (fun j hj => nr j (by simp at hj; omega)), nv, nr⟩
    · refine AKeep.set ⟨by have := kG.size; omega, fun id hid => ?_⟩ (by omega)
      rw [old id (by have := kG.size; omega) (fun e => by have := ab _ e; omega), kG.get id hid]
    · rw [get_set_ne _ _ _ _ (by omega), old _ (by omega) (fun e => by have := ab _ e; omega), e0]
    · rw [get_set_ne _ _ _ _ (by omega), old _ (by omega) (fun e => by have := ab _ e; omega), e1]
  · have hlt : ¬ i < xss.length := by intro h; have := (dec_lt hlt).2 h; cases this
    obtain rfl : i = xss.length := by omega
    obtain ⟨a, m, c, rfl⟩ := ho.top.row.slice
    have b3 : H.size + 1 < G.size := by omega
    simp only [go_sem, seval, hs, e3, e1, get_set_same _ _ _ b3]
    rw [List.take_of_length_le (Nat.le_refl _)] at ho
    exact hk _ us _ (AKeep.set (k := H.size + 1) kG (by omega)) ((ho.set (by omega)).le (by omega))
set_option maxRecDepth 8000 in
theorem l9Own_c {v : Value} {q : Int} {vs : List Value} {xss : List (List Int)} (h : IntsS H v vs xss) (hs0 : Small xss) (hk : ∀ v' vs' H', AKeep H H' → OwnSS H.size H' v' vs' xss → Kk (.agg #[.int .i64 q, v']) H') : callA Try.prog 76 #[.agg #[.int .i64 q, v]] H Kk := by
  have hb := h.lt
  refine call_go (fn := Try.f76) (rs := [.cell 2 36]) [] (by kernel_rfl) rfl rfl follows (by kernel_rfl) ?_
  simp only [go_sem, seval, push_p, pushes_p, size_p, get_p, get_p0, set_p, set_p0, intss_len h]
  have g0 := h.keep (keep_p (l := [.rw 2 [.int .i64 q, v], .rw 2 [.int .i64 0, .slice none 0 0], .rw 2 [.int .i64 q, .slice none 0 0]]))
  refine loopF [4, 8, 9, 10, 11, 12, 13, 14, 15, 16, 17, 18, 19, 20, 21, 22, 23, 24, 25] (by kernel_rfl) (I := fun n σ G => ∃ i sv us, n = xss.length - i ∧ σ 4 = .int .i64 (i : Nat) ∧ i ≤ xss.length ∧ AKeep H G ∧ H.size + 2 < G.size ∧ G.get H.size = .rw 2 [.int .i64 q, v] ∧ G.get (H.size + 1) = .rw 2 [.int .i64 0, .slice none 0 0] ∧ G.get (H.size + 2) = .rw 2 [.int .i64 q, sv] ∧ OwnSS (H.size + 3) G sv us (xss.take i) ∧ idOf sv ≠ some (H.size + 2) ∧ (∀ j, j < i → idOf (nth us j undef) ≠ some (H.size + 2))) _ ⟨0, .slice none 0 0, [], rfl, ?s4, by omega, keep_p, by rw [size_p]; simp, by rw [get_p0]; rfl, by rw [get_p]; rfl, by rw [get_p]; rfl, ⟨.inl ⟨rfl, rfl, rfl⟩, by simp, fun i hi => by simp at hi, fun i id hi => by simp at hi, fun i j id hi => by simp at hi⟩, by intro e; simp [idOf] at e, fun j hj => by omega⟩ ?_

  case s4 => first | (simp only [go_sem, seval]; done) | (simp only [go_sem, seval]; rfl) | (simp only [go_sem, seval, *]; done)
  rintro _ σ1 _ ⟨i, sv, us, rfl, s4, hi, kG, hsz, e0, e1, e3, ho, hn1, hn2⟩ hs R ih
  rename_i G
  have g := h.keep kG
  simp only [go_sem, seval, s4, hs, e0, intss_len h]
  refine fork (fun hlt => ?_) (fun hlt => ?_)
  · have hlt : i < xss.length := (dec_lt hlt).1 rfl
    simp only [go_sem, seval, hs, s4, e0, intss_index g, intss_load g, hlt, e3]
    refine l1Own_c (g.2.2 i hlt) (hs0.2 i hlt) fun u G1 k1 hu0 => ?_
    have hu := OwnN.of hu0
    obtain ⟨a, m, c, rfl⟩ := hu.row.slice
    have hl6 := hs0.1
    have htl : (xss.take i).length = i := by simp; omega
    simp only [go_sem, seval]
    refine ⟨callCond_keep k1, ownSS_push ho (k1.trans (AKeep.push _ _)) (by omega) (hu.keep (AKeep.push _ _)) rfl (by rw [htl]; omega) (by rw [htl]; unfold big; omega) fun v' vs' G' ho' hs' hf hid hn => ?_⟩
    rw [size_push] at hs'
    have := k1.size
    have old : ∀ id, id < G.size → idOf sv ≠ some id → G'.get id = G.get id := fun id h1 h2 => by
      rw [hf id (by rw [size_push]; omega) h2, get_push_lt _ _ _ (by omega), k1.get id h1]
    have e3' : G'.get (H.size + 2) = .rw 2 [.int .i64 q, sv] := by rw [old _ (by omega) hn1, e3]
    obtain ⟨a', m', c', rfl⟩ := ho'.top.row.slice
    simp only [go_sem, seval, e3', hs, s4, wrap_succ (Nat.lt_of_le_of_lt hlt hb)]
    have nv : idOf (.slice a' m' c') ≠ some (H.size + 2) := by rw [hid, size_push]; simp; omega
    have nr : ∀ j, j < i + 1 → idOf (nth vs' j undef) ≠ some (H.size + 2) := fun j hj e => by
      rw [htl] at hn
      rcases hn j hj _ e with h1 | h1
      · exact hn2 j h1.1 h1.2
      · omega
    rw [← take_succ_nth _ _ _ hlt] at ho'
    have ab := fun id => ho.top.above id
    refine ⟨callCond_bar (by kernel_rfl), ?_⟩
    refine ih _ (by omega) _ _ ⟨i + 1, _, vs', rfl, by simp only [go_sem, seval], by omega, ?_, by rw [size_set]; omega, ?_, ?_, by rw [get_set_same _ _ _ (by omega)], ho'.setN nv (fun j hj => nr j (by simp at hj; omega)), nv, nr⟩
    · refine AKeep.set ⟨by have := kG.size; omega, fun id hid => ?_⟩ (by omega)
      rw [old id (by have := kG.size; omega) (fun e => by have := ab _ e; omega), kG.get id hid]
    · rw [get_set_ne _ _ _ _ (by omega), old _ (by omega) (fun e => by have := ab _ e; omega), e0]
    · rw [get_set_ne _ _ _ _ (by omega), old _ (by omega) (fun e => by have := ab _ e; omega), e1]
  · have hlt : ¬ i < xss.length := by intro h; have := (dec_lt hlt).2 h; cases this
    obtain rfl : i = xss.length := by omega
    obtain ⟨a, m, c, rfl⟩ := ho.top.row.slice
    have b3 : H.size + 1 < G.size := by omega
    simp only [go_sem, seval, hs, e3, e1, get_set_same _ _ _ b3]
    rw [List.take_of_length_le (Nat.le_refl _)] at ho
    exact hk _ us _ (AKeep.set (k := H.size + 1) kG (by omega)) ((ho.set (by omega)).le (by omega))
end Go.Ah.A


namespace Go.Ah.A
open Go Go.Ah Go.Proofs
set_option linter.unusedSimpArgs false
variable {H : AHeap} {Kk : Value → AHeap → Prop}
def Off (v : Value) (vs : List Value) (u : Value) (us : List Value) : Prop := ∀ id, InF v vs id → ¬ InF u us id
set_option maxRecDepth 8000 in
theorem ownTerminal_c {v u : Value} {vs us : List Value} {xss yss : List (List Int)} {q : Int} (h : IntsS H v vs xss) (g : IntsS H u us yss) (hs : Small xss) (hs' : Small yss)
    (hk : ∀ v' vs' u' us' H', AKeep H H' → HSS H.size H' v' vs' xss → HSS H.size H' u' us' yss → Off v' vs' u' us' → Kk (.agg #[v', .int .i64 q, u']) H') : callA Try.prog 57 #[.agg #[v, .int .i64 q, u]] H Kk := by
  refine call_go (fn := Try.f57) (rs := [.cell 2 38]) [] (by kernel_rfl) rfl rfl follows (by kernel_rfl) ?_
  simp only [go_sem, seval, push_p, pushes_p, size_p, get_p, get_p0, set_p, set_p0]
  have k0 : AKeep H (pushes H [.rw 3 [v, .int .i64 q, u], .rw 3 [.slice none 0 0, .int .i64 0, .slice none 0 0]]) := keep_p
  refine ownYard_c (h.keep k0) hs fun v' vs' H1 k1 h1 => ?_
  simp only [go_sem, seval]
  have e0 : H1.get H.size = .rw 3 [v, .int .i64 q, u] := by rw [k1.get _ (by rw [size_p]; simp), get_p0]; rfl
  refine ⟨callCond_keep k1, ?_⟩
  simp only [go_sem, seval, e0]
  refine ownBay_c ((g.keep k0).keep k1) hs' fun u' us' H2 k2 h2 => ?_
  simp only [go_sem, seval]
  refine ⟨callCond_keep k2, ?_⟩
  have hz1 := k1.size
  have hz2 := k2.size
  simp only [size_p, List.length_cons, List.length_nil] at hz1 h1
  have e1 : H2.get (H.size + 1) = .rw 3 [.slice none 0 0, .int .i64 0, .slice none 0 0] := by rw [k2.get _ (by omega), k1.get _ (by rw [size_p]; simp), get_p]; rfl
  obtain ⟨a, m, c, rfl⟩ := h1.top.row.slice
  obtain ⟨a', m', c', rfl⟩ := h2.top.row.slice
  have b1 : H.size + 1 < H2.size := by omega
  simp only [go_sem, seval, get_set_same, get_set_ne, Nat.add_left_cancel_iff, e1, b1]
  have s1 := HSS.of h1
  have s2 := HSS.of h2
  refine hk _ vs' _ us' _ (((k0.trans k1).trans k2).set (by omega)) (((s1.keep k2).keepF (by rw [size_set]; omega) fun id hi => get_set_ne _ _ _ _ ?_).le (by omega)) ((s2.keepF (by rw [size_set]; omega) fun id hi => get_set_ne _ _ _ _ ?_).le (by omega)) fun id hi hj => ?_
  · have := s1.above hi; omega
  · have := s2.above hi; omega
  · have := s1.low hi; have := s2.above hj; omega
set_option maxRecDepth 8000 in
theorem l24Own_c {v u : Value} {vs us : List Value} {xss yss : List (List Int)} {q : Int} (h : IntsS H v vs xss) (g : IntsS H u us yss) (hs : Small xss) (hs' : Small yss)
    (hk : ∀ v' vs' u' us' H', AKeep H H' → HSS H.size H' v' vs' xss → HSS H.size H' u' us' yss → Off v' vs' u' us' → Kk (.agg #[v', .int .i64 q, u']) H') : callA Try.prog 56 #[.agg #[v, .int .i64 q, u]] H Kk := by
  refine call_go (fn := Try.f56) (rs := [.cell 2 38]) [] (by kernel_rfl) rfl rfl follows (by kernel_rfl) ?_
  simp only [go_sem, seval, push_p, pushes_p, size_p, get_p, get_p0, set_p, set_p0]
  have k0 : AKeep H (pushes H [.rw 3 [v, .int .i64 q, u], .rw 3 [.slice none 0 0, .int .i64 0, .slice none 0 0]]) := keep_p
  refine l5Own_c (h.keep k0) hs fun v' vs' H1 k1 h1 => ?_
  simp only [go_sem, seval]
  have e0 : H1.get H.size = .rw 3 [v, .int .i64 q, u] := by rw [k1.get _ (by rw [size_p]; simp), get_p0]; rfl
  refine ⟨callCond_keep k1, ?_⟩
  simp only [go_sem, seval, e0]
  refine l9Own_c ((g.keep k0).keep k1) hs' fun u' us' H2 k2 h2 => ?_
  simp only [go_sem, seval]
  refine ⟨callCond_keep k2, ?_⟩
  have hz1 := k1.size
  have hz2 := k2.size
  simp only [size_p, List.length_cons, List.length_nil] at hz1 h1
  have e1 : H2.get (H.size + 1) = .rw 3 [.slice none 0 0, .int .i64 0, .slice none 0 0] := by rw [k2.get _ (by omega), k1.get _ (by rw [size_p]; simp), get_p]; rfl
  obtain ⟨a, m, c, rfl⟩ := h1.top.row.slice
  obtain ⟨a', m', c', rfl⟩ := h2.top.row.slice
  have b1 : H.size + 1 < H2.size := by omega
  simp only [go_sem, seval, get_set_same, get_set_ne, Nat.add_left_cancel_iff, e1, b1]
  have s1 := HSS.of h1
  have s2 := HSS.of h2
  refine hk _ vs' _ us' _ (((k0.trans k1).trans k2).set (by omega)) (((s1.keep k2).keepF (by rw [size_set]; omega) fun id hi => get_set_ne _ _ _ _ ?_).le (by omega)) ((s2.keepF (by rw [size_set]; omega) fun id hi => get_set_ne _ _ _ _ ?_).le (by omega)) fun id hi hj => ?_
  · have := s1.above hi; omega
  · have := s2.above hi; omega
  · have := s1.low hi; have := s2.above hj; omega
end Go.Ah.A


namespace Go.Ah.A
open Go Go.Ah Go.Proofs
set_option linter.unusedSimpArgs false
variable {H : AHeap} {Kk : Value → AHeap → Prop}
theorem tops_spec {b : Int} : ∀ (xss : List (List Int)) (i : Nat), tops b xss i < 0 ∨ ∃ a : Nat, tops b xss i = ((i + a : Nat) : Int) ∧ a < xss.length ∧ onTop b (nth xss a []) = true
  | [], i => .inl (by simp [tops])
  | s :: r, i => by
    unfold tops
    split
    · rename_i h; exact .inr ⟨0, rfl, by simp, h⟩
    · rcases tops_spec r (i + 1) with h | ⟨a, h1, h2, h3⟩
      · exact .inl h
      · exact .inr ⟨a + 1, by rw [h1]; congr 1; omega, by simp; omega, h3⟩
structure MK where
  y : List (List Int)
  q : Int
  s : List (List Int)
  a : Int
  ok : Bool
def MK.no : MK := ⟨[], 0, [], 0, false⟩
def cutAt (y : List (List Int)) (a : Nat) : List (List Int) := y.set a ((nth y a []).take ((nth y a []).length - 1))
def putAt (y : List (List Int)) (t : Nat) (b : Int) : List (List Int) := y.set t (nth y t [] ++ [b])
def mkFin (y : List (List Int)) (q : Int) (s : List (List Int)) (a : Int) : MK := if validTerminal y q s = true then ⟨y, q, s, a, true⟩ else MK.no
def mkP (y : List (List Int)) (q : Int) (s : List (List Int)) (k b t : Int) : MK :=
  if k = 1 then (if tops b y 0 < 0 ∨ ¬ (0 ≤ t ∧ t ≤ y.length - 1) ∨ t = tops b y 0 then MK.no else mkFin (putAt (cutAt y (tops b y 0).toNat) t.toNat b) q s (tops b y 0))
  else if k = 2 then (if tops b y 0 < 0 ∨ ¬ (0 ≤ t ∧ t ≤ s.length - 1) then MK.no else mkFin (cutAt y (tops b y 0).toNat) q (putAt s t.toNat b) (tops b y 0))
  else if k = 3 then (if tops b s 0 < 0 ∨ ¬ (0 ≤ t ∧ t ≤ y.length - 1) then MK.no else mkFin (putAt y t.toNat b) q (cutAt s (tops b s 0).toNat) (tops b s 0))
  else MK.no
set_option maxRecDepth 8000 in
set_option maxHeartbeats 4000000 in
theorem makeOrder_c {v u : Value} {vs us : List Value} {xss yss : List (List Int)} {q k b t : Int} (h : IntsS H v vs xss) (g : IntsS H u us yss) (hs : Small xss) (hs' : Small yss)
    (hk : ∀ v' vs' u' us' H', AKeep H H' → HSS H.size H' v' vs' (mkP xss q yss k b t).y → HSS H.size H' u' us' (mkP xss q yss k b t).s → Off v' vs' u' us' → Kk (.tuple #[.agg #[v', .int .i64 (mkP xss q yss k b t).q, u'], .int .i64 (mkP xss q yss k b t).a, .bool (mkP xss q yss k b t).ok]) H') : callA Try.prog 40 #[.agg #[v, .int .i64 q, u], .agg #[.int .i64 k, .int .i64 b, .int .i64 t]] H Kk := by
  refine call_go (fn := Try.f40) (rs := [.cell 4 38, .tmp 5, .tmp 6]) [14] (by kernel_rfl) rfl rfl follows (by kernel_rfl) ?_
  simp only [go_sem, seval, push_p, pushes_p, size_p, get_p, get_p0, set_p, set_p0]
  have k0 : AKeep H (pushes H [.rw 3 [v, .int .i64 q, u], .rw 3 [.int .i64 k, .int .i64 b, .int .i64 t], .rw 3 [.slice none 0 0, .int .i64 0, .slice none 0 0]]) := keep_p
  refine ownTerminal_c (h.keep k0) (g.keep k0) hs hs' fun v' vs' u' us' H1 k1 h1 g1 o1 => ?_
  have hz1 := k1.size
  simp only [size_p, List.length_cons, List.length_nil] at hz1 h1 g1
  have e1 : H1.get (H.size + 1) = .rw 3 [.int .i64 k, .int .i64 b, .int .i64 t] := by rw [k1.get _ (by rw [size_p]; simp), get_p]; rfl
  have e2 : H1.get (H.size + 2) = .rw 3 [.slice none 0 0, .int .i64 0, .slice none 0 0] := by rw [k1.get _ (by rw [size_p]; simp), get_p]; rfl
  have n1 : H.size + 1 ≠ H1.size := by omega
  obtain ⟨a, m, c, rfl⟩ := h1.top.slice
  obtain ⟨a', m', c', rfl⟩ := g1.top.slice
  simp only [go_sem, seval, get_set_same, get_set_ne, Nat.add_left_cancel_iff, e1, get_push_ne _ _ _ n1, push_set]
  have kG : AKeep H (H1.push (.rw 3 [.slice a m c, .int .i64 q, .slice a' m' c'])) := (k0.trans k1).trans (AKeep.push _ _)
  have h2 := h1.keep (AKeep.push _ (.rw 3 [.slice a m c, .int .i64 q, .slice a' m' c']))
  have g2 := g1.keep (AKeep.push _ (.rw 3 [.slice a m c, .int .i64 q, .slice a' m' c']))
  have f1 : (H1.push (.rw 3 [.slice a m c, .int .i64 q, .slice a' m' c'])).get (H.size + 1) = .rw 3 [.int .i64 k, .int .i64 b, .int .i64 t] := by rw [get_push_lt _ _ _ (by omega), e1]
  have f2 : (H1.push (.rw 3 [.slice a m c, .int .i64 q, .slice a' m' c'])).get (H.size + 2) = .rw 3 [.slice none 0 0, .int .i64 0, .slice none 0 0] := by rw [get_push_lt _ _ _ (by omega), e2]
  have f3 : (H1.push (.rw 3 [.slice a m c, .int .i64 q, .slice a' m' c'])).get H1.size = .rw 3 [.slice a m c, .int .i64 q, .slice a' m' c'] := get_push_same _ _
  have hzz : (H1.push (.rw 3 [.slice a m c, .int .i64 q, .slice a' m' c'])).size = H1.size + 1 := size_push _ _
  generalize hGe : H1.push (.rw 3 [.slice a m c, .int .i64 q, .slice a' m' c']) = G at *
  obtain ⟨R, hR⟩ : ∃ R, mkP xss q yss k b t = R := ⟨_, rfl⟩
  rw [hR] at hk
  have b2 : H.size + 2 < G.size := by omega
  have hfail : R = MK.no → ∀ G', AKeep H G' → Kk (.tuple #[.agg #[.slice none 0 0, .int .i64 0, .slice none 0 0], .int .i64 0, .bool false]) G' := fun e G' kG' => by
    subst e
    exact hk _ [] _ [] _ kG' hss_nil hss_nil fun id hi => absurd hi inF_nil
  by_cases hk1 : k = 1
  · subst hk1
    rw [show mkP xss q yss 1 b t = (if tops b xss 0 < 0 ∨ ¬ (0 ≤ t ∧ t ≤ xss.length - 1) ∨ t = tops b xss 0 then MK.no else mkFin (putAt (cutAt xss (tops b xss 0).toNat) t.toNat b) q yss (tops b xss 0)) by unfold mkP; rw [if_pos rfl]] at hR
    simp only [go_sem, seval]
    refine indexFunc_c h2.intss f1 ?_
    by_cases ha : tops b xss 0 < 0
    · have ha' : decide (tops b xss 0 < 0) = true := by simpa using ha
      rw [if_pos (.inl ha)] at hR
      simp only [go_sem, seval, get_set_same, get_set_ne, Nat.add_left_cancel_iff, f1, f2, b2, intss_len h2.intss, ha']
      exact hfail hR.symm _ (kG.set (by omega))
    have ha' : decide (tops b xss 0 < 0) = false := by simpa using ha
    simp only [go_sem, seval, get_set_same, get_set_ne, Nat.add_left_cancel_iff, f1, f2, b2, intss_len h2.intss, ha']
    refine within_c ?_
    have hw : IntKind.i64.wrap ((xss.length : Int) - 1) = (xss.length : Int) - 1 := wrap_id (by omega) (by have := hs.1; omega)
    rw [hw]
    by_cases hb : 0 ≤ t ∧ t ≤ xss.length - 1
    rotate_left
    · have hb' : (decide (0 ≤ t) && decide (t ≤ (xss.length : Int) - 1)) = false := by simpa using hb
      rw [if_pos (.inr (.inl hb))] at hR
      simp only [go_sem, seval, get_set_same, get_set_ne, Nat.add_left_cancel_iff, f1, f2, b2, hb']
      exact hfail hR.symm _ (kG.set (by omega))
    have hb' : (decide (0 ≤ t) && decide (t ≤ (xss.length : Int) - 1)) = true := by simpa using hb
    by_cases hc : t = tops b xss 0
    · have hc' : (t == tops b xss 0) = true := by simpa using hc
      rw [if_pos (.inr (.inr hc))] at hR
      simp only [go_sem, seval, get_set_same, get_set_ne, Nat.add_left_cancel_iff, f1, f2, b2, hb', hc']
      exact hfail hR.symm _ (kG.set (by omega))
    have hc' : (t == tops b xss 0) = false := by simpa using hc
    simp only [go_sem, seval, get_set_same, get_set_ne, Nat.add_left_cancel_iff, f1, f2, b2, hb', hc']
    rcases tops_spec (b := b) xss 0 with h3 | ⟨a0, hA, hal, htop⟩
    · exact absurd h3 ha
    rw [Nat.zero_add] at hA
    obtain ⟨t0, rfl⟩ : ∃ t0 : Nat, t = t0 := ⟨t.toNat, by omega⟩
    have htl : t0 < xss.length := by omega
    have hpos : 0 < (nth xss a0 []).length := by unfold onTop at htop; simp at htop; omega
    have hr := (h2.rows a0 hal)
    have hw2 : IntKind.i64.wrap (((nth xss a0 []).length : Int) - 1) = (((nth xss a0 []).length - 1 : Nat) : Int) := by
      rw [wrap_id (by omega) (by have := hs.2 a0 hal; omega)]; omega
    rw [hA] at hR
    simp only [go_sem, seval, get_set_same, get_set_ne, Nat.add_left_cancel_iff, hA, intss_index h2.intss, intss_load h2.intss, hal, ints_len hr.ints, hw2]
    refine hd_cut hr (by simp only [go_sem, seval]) (by omega) fun w hw3 hw4 => ?_
    simp only [go_sem, seval, intss_index h2.intss, hal]
    obtain ⟨xs1, hxs1⟩ : ∃ xs1, (nth xss a0 []).take ((nth xss a0 []).length - 1) = xs1 := ⟨_, rfl⟩
    have hl1 : xs1.length = (nth xss a0 []).length - 1 := by rw [← hxs1, List.length_take]; omega
    rw [Nat.mul_one, ← List.map_take, hxs1, ← hl1] at hw3
    refine hss_put h2 hal hw3 (Nat.le_refl _) (fun _ _ _ => rfl) (fun id e => .inl (by rw [← hw4]; exact e)) (by simp only [go_sem, seval]) fun G2 h3 hz2 hf2 hi2 => ?_
    have hlo : ∀ id, id < H.size + 3 → idOf (.slice a m c) ≠ some id := fun id hi e => by have := h2.top.above _ e; omega
    have p1 : G2.get (H.size + 1) = .rw 3 [.int .i64 1, .int .i64 b, .int .i64 t0] := by rw [hf2 _ (hlo _ (by omega)), f1]
    have htl2 : t0 < (xss.set a0 xs1).length := by rw [List.length_set]; exact htl
    have e3 : ((t0 : Int)).toNat = t0 := by omega
    simp only [go_sem, seval, get_set_same, get_set_ne, Nat.add_left_cancel_iff, p1, intss_index h3.intss, intss_load h3.intss, htl2]
    have hr2 := (h3.rows t0 htl2).keep (AKeep.push G2 (.rw 1 [.int .i64 b]))
    have hrl : (nth (xss.set a0 xs1) t0 []).length ≤ 1048576 := by
      by_cases e : a0 = t0
      · subst e; rw [nth_set_eq hal]; have := hs.2 a0 hal; omega
      · rw [nth_set_ne e]; exact hs.2 t0 htl
    have hh3 := h3.keep (AKeep.push G2 (.rw 1 [.int .i64 b]))
    refine hd_app hr2 (by rw [size_push]; omega) (by rfl) (by rfl) (by omega) (by unfold big; omega) fun w2 G4 hw5 hz4 hf4 hn4 => ?_
    refine ⟨draw2_weak (by kernel_rfl), ?_⟩
    simp only [go_sem, seval, intss_index hh3.intss, htl2]
    refine hss_put hh3 htl2 (xs := nth (xss.set a0 xs1) t0 [] ++ [b]) (by rw [List.length_append, List.map_append]; exact hw5) hz4 hf4 hn4 (by simp only [go_sem, seval]) fun G5 h5 hz5 hf5 hi5 => ?_
    simp only [go_sem, seval]
    have ids : ∀ id, id < G.size → ¬ InF (.slice a m c) vs' id → G5.get id = G.get id := fun id hi hno => by
      have hv : idOf (.slice a m c) ≠ some id := fun e => hno (.inl e)
      have hr0 : idOf (nth (vs'.set a0 w) t0 undef) ≠ some id := fun e => by
        rcases hi2 id (.inr ⟨t0, by rw [List.length_set, h2.len]; exact htl, e⟩) with h4 | h4
        · exact hno h4
        · omega
      rw [hf5 id hv, hf4 id (by rw [size_push]; omega) hr0, get_push_lt _ _ _ (by omega), hf2 id hv]
    have nlo : ∀ id, id < H.size + 3 → ¬ InF (.slice a m c) vs' id := fun id hi e => by have := h2.above e; omega
    refine ⟨floatCond_cons (l := []) (by kernel_rfl) floatOne_nil (floatCond_cons (l := [.tmp 75]) (by kernel_rfl) (floatOne_cons (fun id e => ?_) floatOne_nil) (by simp only [go_sem, seval])), ?_⟩
    · simp only [go_sem, seval] at e
      obtain rfl : H.size + 1 = id := by cases e; rfl
      refine hf4 _ (by rw [size_push]; omega) fun e => ?_
      rcases hi2 _ (.inr ⟨t0, by rw [List.length_set, h2.len]; exact htl, e⟩) with h4 | h4
      · exact nlo _ (by omega) h4
      · omega
    have p3 : G5.get H1.size = .rw 3 [.slice a m c, .int .i64 q, .slice a' m' c'] := by rw [ids _ (by omega) fun e => by have := h1.low e; omega, f3]
    have p2 : G5.get (H.size + 2) = .rw 3 [.slice none 0 0, .int .i64 0, .slice none 0 0] := by rw [ids _ (by omega) (nlo _ (by omega)), f2]
    have hz5' : G.size ≤ G5.size := by rw [size_push] at hz4; omega
    have k5 : AKeep H G5 := ⟨by have := kG.size; omega, fun id hi => by rw [ids id (by omega) (nlo id (by omega)), kG.get id hi]⟩
    have g5 : HSS (H.size + 3) G5 (.slice a' m' c') us' yss := g2.keepF hz5' fun id hi => ids id (g2.low hi) fun e => o1 id e hi
    have o5 : Off (.slice a m c) ((vs'.set a0 w).set t0 w2) (.slice a' m' c') us' := fun id hi hi' => by
      have := g2.low hi'
      rcases hi5 id hi with h4 | h4
      · rcases hi2 id h4 with h4 | h4
        · exact o1 id h4 hi'
        · omega
      · rw [size_push] at h4; omega
    simp only [go_sem, seval, p3]
    refine validTerminal_c h5.intss g5.intss fun G6 k6 => ?_
    have p2 : G6.get (H.size + 2) = .rw 3 [.slice none 0 0, .int .i64 0, .slice none 0 0] := by rw [k6.get _ (by omega), p2]
    have p3 : G6.get H1.size = .rw 3 [.slice a m c, .int .i64 q, .slice a' m' c'] := by rw [k6.get _ (by omega), p3]
    have b6 : H.size + 2 < G6.size := by have := k6.size; omega
    have hR : mkFin ((xss.set a0 xs1).set t0 (nth (xss.set a0 xs1) t0 [] ++ [b])) q yss a0 = R := by
      rw [← hR, if_neg (by omega), ← hxs1]; rfl
    by_cases hval : validTerminal ((xss.set a0 xs1).set t0 (nth (xss.set a0 xs1) t0 [] ++ [b])) q yss = true
    · simp only [go_sem, seval, get_set_same, get_set_ne, Nat.add_left_cancel_iff, hval, p3, p2, b6]
      rw [mkFin, if_pos hval] at hR
      subst hR
      refine hk _ _ _ us' _ ((k5.trans k6).set (by omega)) (((h5.keep k6).keepF (by rw [size_set]; omega) fun id hi => get_set_ne _ _ _ _ ?_).le (by omega)) (((g5.keep k6).keepF (by rw [size_set]; omega) fun id hi => get_set_ne _ _ _ _ ?_).le (by omega)) o5
      · have := h5.above hi; omega
      · have := g5.above hi; omega
    · have hval : validTerminal ((xss.set a0 xs1).set t0 (nth (xss.set a0 xs1) t0 [] ++ [b])) q yss = false := by simpa using hval
      simp only [go_sem, seval, get_set_same, get_set_ne, Nat.add_left_cancel_iff, hval, p3, p2, b6]
      rw [mkFin, if_neg (by simp [hval])] at hR
      exact hfail hR.symm _ ((k5.trans k6).set (by omega))
  have o1' : Off (.slice a' m' c') us' (.slice a m c) vs' := fun id hi hj => o1 id hj hi
  by_cases hk2 : k = 2
  · subst hk2
    rw [show mkP xss q yss 2 b t = (if tops b xss 0 < 0 ∨ ¬ (0 ≤ t ∧ t ≤ yss.length - 1) then MK.no else mkFin (cutAt xss (tops b xss 0).toNat) q (putAt yss t.toNat b) (tops b xss 0)) by unfold mkP; rw [if_neg (by omega), if_pos rfl]] at hR
    have c1 : ((2 : Int) == 1) = false := rfl
    simp only [go_sem, seval, get_set_same, get_set_ne, Nat.add_left_cancel_iff, f1, f2, f3, c1]
    refine indexFunc_c h2.intss f1 ?_
    by_cases ha : tops b xss 0 < 0
    · have ha' : decide (tops b xss 0 < 0) = true := by simpa using ha
      rw [if_pos (.inl ha)] at hR
      simp only [go_sem, seval, get_set_same, get_set_ne, Nat.add_left_cancel_iff, f1, f2, b2, ha']
      exact hfail hR.symm _ (kG.set (by omega))
    have ha' : decide (tops b xss 0 < 0) = false := by simpa using ha
    simp only [go_sem, seval, get_set_same, get_set_ne, Nat.add_left_cancel_iff, f1, f2, b2, intss_len g2.intss, ha']
    refine within_c ?_
    have hw : IntKind.i64.wrap ((yss.length : Int) - 1) = (yss.length : Int) - 1 := wrap_id (by omega) (by have := hs'.1; omega)
    rw [hw]
    by_cases hb : 0 ≤ t ∧ t ≤ yss.length - 1
    rotate_left
    · have hb' : (decide (0 ≤ t) && decide (t ≤ (yss.length : Int) - 1)) = false := by simpa using hb
      rw [if_pos (.inr hb)] at hR
      simp only [go_sem, seval, get_set_same, get_set_ne, Nat.add_left_cancel_iff, f1, f2, b2, hb']
      exact hfail hR.symm _ (kG.set (by omega))
    have hb' : (decide (0 ≤ t) && decide (t ≤ (yss.length : Int) - 1)) = true := by simpa using hb
    simp only [go_sem, seval, get_set_same, get_set_ne, Nat.add_left_cancel_iff, f1, f2, b2, hb', c1]
    rcases tops_spec (b := b) xss 0 with h3 | ⟨a0, hA, hal, htop⟩
    · exact absurd h3 ha
    rw [Nat.zero_add] at hA
    obtain ⟨t0, rfl⟩ : ∃ t0 : Nat, t = t0 := ⟨t.toNat, by omega⟩
    have htl : t0 < yss.length := by omega
    have hpos : 0 < (nth xss a0 []).length := by unfold onTop at htop; simp at htop; omega
    have hr := (h2.rows a0 hal)
    have hw2 : IntKind.i64.wrap (((nth xss a0 []).length : Int) - 1) = (((nth xss a0 []).length - 1 : Nat) : Int) := by
      rw [wrap_id (by omega) (by have := hs.2 a0 hal; omega)]; omega
    rw [hA] at hR
    simp only [go_sem, seval, get_set_same, get_set_ne, Nat.add_left_cancel_iff, hA, intss_index h2.intss, intss_load h2.intss, hal, ints_len hr.ints, hw2]
    refine hd_cut hr (by simp only [go_sem, seval]) (by omega) fun w hw3 hw4 => ?_
    simp only [go_sem, seval, intss_index h2.intss, hal]
    obtain ⟨xs1, hxs1⟩ : ∃ xs1, (nth xss a0 []).take ((nth xss a0 []).length - 1) = xs1 := ⟨_, rfl⟩
    have hl1 : xs1.length = (nth xss a0 []).length - 1 := by rw [← hxs1, List.length_take]; omega
    rw [Nat.mul_one, ← List.map_take, hxs1, ← hl1] at hw3
    refine hss_put h2 hal hw3 (Nat.le_refl _) (fun _ _ _ => rfl) (fun id e => .inl (by rw [← hw4]; exact e)) (by simp only [go_sem, seval]) fun G2 h3 hz2 hf2 hi2 => ?_
    have nfo : ∀ id, id < H.size + 3 → ¬ InF (.slice a m c) vs' id := fun id hi e => by have := h2.above e; omega
    have nto : ∀ id, id < H.size + 3 → ¬ InF (.slice a' m' c') us' id := fun id hi e => by have := g2.above e; omega
    have p1 : G2.get (H.size + 1) = .rw 3 [.int .i64 2, .int .i64 b, .int .i64 t0] := by rw [hf2 _ (fun e => nfo _ (by omega) (.inl e)), f1]
    have ht3 := g2.keepF (G' := G2) (by omega) fun id hi => hf2 id fun e => o1 id (.inl e) hi
    simp only [go_sem, seval, get_set_same, get_set_ne, Nat.add_left_cancel_iff, p1, intss_index ht3.intss, intss_load ht3.intss, htl]
    have hr2 := (ht3.rows t0 htl).keep (AKeep.push G2 (.rw 1 [.int .i64 b]))
    have hrl : (nth yss t0 []).length ≤ 1048576 := hs'.2 t0 htl
    have hl1' := hs'.1
    have hh3 := ht3.keep (AKeep.push G2 (.rw 1 [.int .i64 b]))
    refine hd_app hr2 (by rw [size_push]; omega) (by rfl) (by rfl) (by omega) (by unfold big; omega) fun w2 G4 hw5 hz4 hf4 hn4 => ?_
    refine ⟨draw2_weak (by kernel_rfl), ?_⟩
    simp only [go_sem, seval, intss_index hh3.intss, htl]
    refine hss_put hh3 htl (xs := nth yss t0 [] ++ [b]) (by rw [List.length_append, List.map_append]; exact hw5) hz4 hf4 hn4 (by simp only [go_sem, seval]) fun G5 h5 hz5 hf5 hi5 => ?_
    simp only [go_sem, seval]
    have idt : ∀ id, id < G.size → ¬ InF (.slice a' m' c') us' id → G5.get id = G2.get id := fun id hi hno => by
      rw [hf5 id fun e => hno (.inl e), hf4 id (by rw [size_push]; omega) fun e => hno (.inr ⟨t0, by rw [g2.len]; exact htl, e⟩), get_push_lt _ _ _ (by omega)]
    have ids : ∀ id, id < G.size → ¬ InF (.slice a m c) vs' id → ¬ InF (.slice a' m' c') us' id → G5.get id = G.get id := fun id hi hno hno2 => by
      rw [idt id hi hno2, hf2 id fun e => hno (.inl e)]
    refine ⟨floatCond_cons (l := []) (by kernel_rfl) floatOne_nil (floatCond_cons (l := [.tmp 75]) (by kernel_rfl) (floatOne_cons (fun id e => ?_) floatOne_nil) (by simp only [go_sem, seval])), ?_⟩
    · simp only [go_sem, seval] at e
      obtain rfl : H.size + 1 = id := by cases e; rfl
      exact hf4 _ (by rw [size_push]; omega) fun e => nto _ (by omega) (.inr ⟨t0, by rw [g2.len]; exact htl, e⟩)
    have p3 : G5.get H1.size = .rw 3 [.slice a m c, .int .i64 q, .slice a' m' c'] := by rw [ids _ (by omega) (fun e => by have := h1.low e; omega) (fun e => by have := g1.low e; omega), f3]
    have p2 : G5.get (H.size + 2) = .rw 3 [.slice none 0 0, .int .i64 0, .slice none 0 0] := by rw [ids _ (by omega) (nfo _ (by omega)) (nto _ (by omega)), f2]
    have hz5' : G.size ≤ G5.size := by rw [size_push] at hz4; omega
    have k5 : AKeep H G5 := ⟨by have := kG.size; omega, fun id hi => by rw [ids id (by omega) (nfo id (by omega)) (nto id (by omega)), kG.get id hi]⟩
    have f5 : HSS (H.size + (0 + 1 + 1 + 1)) G5 (.slice a m c) (vs'.set a0 w) (xss.set a0 xs1) := h3.keepF (by omega) fun id hi => idt id (by have := h3.low hi; omega) fun e => by
      have := g2.low e
      rcases hi2 id hi with h4 | h4
      · exact o1 id h4 e
      · omega
    have o5 : Off (.slice a' m' c') (us'.set t0 w2) (.slice a m c) (vs'.set a0 w) := fun id hi hi' => by
      have := h3.low hi'
      rcases hi5 id hi with h4 | h4
      · have := g2.low h4
        rcases hi2 id hi' with h6 | h6
        · exact o1 id h6 h4
        · omega
      · rw [size_push] at h4; omega
    simp only [go_sem, seval, p3]
    refine validTerminal_c f5.intss h5.intss fun G6 k6 => ?_
    have p2 : G6.get (H.size + 2) = .rw 3 [.slice none 0 0, .int .i64 0, .slice none 0 0] := by rw [k6.get _ (by omega), p2]
    have p3 : G6.get H1.size = .rw 3 [.slice a m c, .int .i64 q, .slice a' m' c'] := by rw [k6.get _ (by omega), p3]
    have b6 : H.size + 2 < G6.size := by have := k6.size; omega
    have hR : mkFin (xss.set a0 xs1) q (yss.set t0 (nth yss t0 [] ++ [b])) a0 = R := by
      rw [← hR, if_neg (by omega), ← hxs1]; rfl
    by_cases hval : validTerminal (xss.set a0 xs1) q (yss.set t0 (nth yss t0 [] ++ [b])) = true
    · simp only [go_sem, seval, get_set_same, get_set_ne, Nat.add_left_cancel_iff, hval, p3, p2, b6]
      rw [mkFin, if_pos hval] at hR
      subst hR
      refine hk _ _ _ _ _ ((k5.trans k6).set (by omega)) (((f5.keep k6).keepF (by rw [size_set]; omega) fun id hi => get_set_ne _ _ _ _ ?_).le (by omega)) (((h5.keep k6).keepF (by rw [size_set]; omega) fun id hi => get_set_ne _ _ _ _ ?_).le (by omega)) fun id e1 e2 => o5 id e2 e1
      · have := f5.above hi; omega
      · have := h5.above hi; omega
    · have hval : validTerminal (xss.set a0 xs1) q (yss.set t0 (nth yss t0 [] ++ [b])) = false := by simpa using hval
      simp only [go_sem, seval, get_set_same, get_set_ne, Nat.add_left_cancel_iff, hval, p3, p2, b6]
      rw [mkFin, if_neg (by simp [hval])] at hR
      exact hfail hR.symm _ ((k5.trans k6).set (by omega))
  by_cases hk3 : k = 3
  · subst hk3
    rw [show mkP xss q yss 3 b t = (if tops b yss 0 < 0 ∨ ¬ (0 ≤ t ∧ t ≤ xss.length - 1) then MK.no else mkFin (putAt xss t.toNat b) q (cutAt yss (tops b yss 0).toNat) (tops b yss 0)) by unfold mkP; rw [if_neg (by omega), if_neg (by omega), if_pos rfl]] at hR
    have c1 : ((3 : Int) == 1) = false := rfl
    have c2 : ((3 : Int) == 2) = false := rfl
    simp only [go_sem, seval, get_set_same, get_set_ne, Nat.add_left_cancel_iff, f1, f2, f3, c1, c2]
    refine indexFunc_c g2.intss f1 ?_
    by_cases ha : tops b yss 0 < 0
    · have ha' : decide (tops b yss 0 < 0) = true := by simpa using ha
      rw [if_pos (.inl ha)] at hR
      simp only [go_sem, seval, get_set_same, get_set_ne, Nat.add_left_cancel_iff, f1, f2, b2, ha']
      exact hfail hR.symm _ (kG.set (by omega))
    have ha' : decide (tops b yss 0 < 0) = false := by simpa using ha
    simp only [go_sem, seval, get_set_same, get_set_ne, Nat.add_left_cancel_iff, f1, f2, b2, intss_len h2.intss, ha']
    refine within_c ?_
    have hw : IntKind.i64.wrap ((xss.length : Int) - 1) = (xss.length : Int) - 1 := wrap_id (by omega) (by have := hs.1; omega)
    rw [hw]
    by_cases hb : 0 ≤ t ∧ t ≤ xss.length - 1
    rotate_left
    · have hb' : (decide (0 ≤ t) && decide (t ≤ (xss.length : Int) - 1)) = false := by simpa using hb
      rw [if_pos (.inr hb)] at hR
      simp only [go_sem, seval, get_set_same, get_set_ne, Nat.add_left_cancel_iff, f1, f2, b2, hb']
      exact hfail hR.symm _ (kG.set (by omega))
    have hb' : (decide (0 ≤ t) && decide (t ≤ (xss.length : Int) - 1)) = true := by simpa using hb
    simp only [go_sem, seval, get_set_same, get_set_ne, Nat.add_left_cancel_iff, f1, f2, b2, hb', c1, c2]
    rcases tops_spec (b := b) yss 0 with h3 | ⟨a0, hA, hal, htop⟩
    · exact absurd h3 ha
    rw [Nat.zero_add] at hA
    obtain ⟨t0, rfl⟩ : ∃ t0 : Nat, t = t0 := ⟨t.toNat, by omega⟩
    have htl : t0 < xss.length := by omega
    have hpos : 0 < (nth yss a0 []).length := by unfold onTop at htop; simp at htop; omega
    have hr := (g2.rows a0 hal)
    have hw2 : IntKind.i64.wrap (((nth yss a0 []).length : Int) - 1) = (((nth yss a0 []).length - 1 : Nat) : Int) := by
      rw [wrap_id (by omega) (by have := hs'.2 a0 hal; omega)]; omega
    rw [hA] at hR
    simp only [go_sem, seval, get_set_same, get_set_ne, Nat.add_left_cancel_iff, hA, intss_index g2.intss, intss_load g2.intss, hal, ints_len hr.ints, hw2]
    refine hd_cut hr (by simp only [go_sem, seval]) (by omega) fun w hw3 hw4 => ?_
    simp only [go_sem, seval, intss_index g2.intss, hal]
    obtain ⟨xs1, hxs1⟩ : ∃ xs1, (nth yss a0 []).take ((nth yss a0 []).length - 1) = xs1 := ⟨_, rfl⟩
    have hl1 : xs1.length = (nth yss a0 []).length - 1 := by rw [← hxs1, List.length_take]; omega
    rw [Nat.mul_one, ← List.map_take, hxs1, ← hl1] at hw3
    refine hss_put g2 hal hw3 (Nat.le_refl _) (fun _ _ _ => rfl) (fun id e => .inl (by rw [← hw4]; exact e)) (by simp only [go_sem, seval]) fun G2 h3 hz2 hf2 hi2 => ?_
    have nfo : ∀ id, id < H.size + 3 → ¬ InF (.slice a' m' c') us' id := fun id hi e => by have := g2.above e; omega
    have nto : ∀ id, id < H.size + 3 → ¬ InF (.slice a m c) vs' id := fun id hi e => by have := h2.above e; omega
    have p1 : G2.get (H.size + 1) = .rw 3 [.int .i64 3, .int .i64 b, .int .i64 t0] := by rw [hf2 _ (fun e => nfo _ (by omega) (.inl e)), f1]
    have ht3 := h2.keepF (G' := G2) (by omega) fun id hi => hf2 id fun e => o1' id (.inl e) hi
    simp only [go_sem, seval, get_set_same, get_set_ne, Nat.add_left_cancel_iff, p1, intss_index ht3.intss, intss_load ht3.intss, htl]
    have hr2 := (ht3.rows t0 htl).keep (AKeep.push G2 (.rw 1 [.int .i64 b]))
    have hrl : (nth xss t0 []).length ≤ 1048576 := hs.2 t0 htl
    have hl1' := hs.1
    have hh3 := ht3.keep (AKeep.push G2 (.rw 1 [.int .i64 b]))
    refine hd_app hr2 (by rw [size_push]; omega) (by rfl) (by rfl) (by omega) (by unfold big; omega) fun w2 G4 hw5 hz4 hf4 hn4 => ?_
    refine ⟨draw2_weak (by kernel_rfl), ?_⟩
    simp only [go_sem, seval, intss_index hh3.intss, htl]
    refine hss_put hh3 htl (xs := nth xss t0 [] ++ [b]) (by rw [List.length_append, List.map_append]; exact hw5) hz4 hf4 hn4 (by simp only [go_sem, seval]) fun G5 h5 hz5 hf5 hi5 => ?_
    simp only [go_sem, seval]
    have idt : ∀ id, id < G.size → ¬ InF (.slice a m c) vs' id → G5.get id = G2.get id := fun id hi hno => by
      rw [hf5 id fun e => hno (.inl e), hf4 id (by rw [size_push]; omega) fun e => hno (.inr ⟨t0, by rw [h2.len]; exact htl, e⟩), get_push_lt _ _ _ (by omega)]
    have ids : ∀ id, id < G.size → ¬ InF (.slice a' m' c') us' id → ¬ InF (.slice a m c) vs' id → G5.get id = G.get id := fun id hi hno hno2 => by
      rw [idt id hi hno2, hf2 id fun e => hno (.inl e)]
    refine ⟨floatCond_cons (l := []) (by kernel_rfl) floatOne_nil (floatCond_cons (l := [.tmp 75]) (by kernel_rfl) (floatOne_cons (fun id e => ?_) floatOne_nil) (by simp only [go_sem, seval])), ?_⟩
    · simp only [go_sem, seval] at e
      obtain rfl : H.size + 1 = id := by cases e; rfl
      exact hf4 _ (by rw [size_push]; omega) fun e => nto _ (by omega) (.inr ⟨t0, by rw [h2.len]; exact htl, e⟩)
    have p3 : G5.get H1.size = .rw 3 [.slice a m c, .int .i64 q, .slice a' m' c'] := by rw [ids _ (by omega) (fun e => by have := g1.low e; omega) (fun e => by have := h1.low e; omega), f3]
    have p2 : G5.get (H.size + 2) = .rw 3 [.slice none 0 0, .int .i64 0, .slice none 0 0] := by rw [ids _ (by omega) (nfo _ (by omega)) (nto _ (by omega)), f2]
    have hz5' : G.size ≤ G5.size := by rw [size_push] at hz4; omega
    have k5 : AKeep H G5 := ⟨by have := kG.size; omega, fun id hi => by rw [ids id (by omega) (nfo id (by omega)) (nto id (by omega)), kG.get id hi]⟩
    have f5 : HSS (H.size + (0 + 1 + 1 + 1)) G5 (.slice a' m' c') (us'.set a0 w) (yss.set a0 xs1) := h3.keepF (by omega) fun id hi => idt id (by have := h3.low hi; omega) fun e => by
      have := h2.low e
      rcases hi2 id hi with h4 | h4
      · exact o1' id h4 e
      · omega
    have o5 : Off (.slice a m c) (vs'.set t0 w2) (.slice a' m' c') (us'.set a0 w) := fun id hi hi' => by
      have := h3.low hi'
      rcases hi5 id hi with h4 | h4
      · have := h2.low h4
        rcases hi2 id hi' with h6 | h6
        · exact o1' id h6 h4
        · omega
      · rw [size_push] at h4; omega
    simp only [go_sem, seval, p3]
    refine validTerminal_c h5.intss f5.intss fun G6 k6 => ?_
    have p2 : G6.get (H.size + 2) = .rw 3 [.slice none 0 0, .int .i64 0, .slice none 0 0] := by rw [k6.get _ (by omega), p2]
    have p3 : G6.get H1.size = .rw 3 [.slice a m c, .int .i64 q, .slice a' m' c'] := by rw [k6.get _ (by omega), p3]
    have b6 : H.size + 2 < G6.size := by have := k6.size; omega
    have hR : mkFin (xss.set t0 (nth xss t0 [] ++ [b])) q (yss.set a0 xs1) a0 = R := by
      rw [← hR, if_neg (by omega), ← hxs1]; rfl
    by_cases hval : validTerminal (xss.set t0 (nth xss t0 [] ++ [b])) q (yss.set a0 xs1) = true
    · simp only [go_sem, seval, get_set_same, get_set_ne, Nat.add_left_cancel_iff, hval, p3, p2, b6]
      rw [mkFin, if_pos hval] at hR
      subst hR
      refine hk _ _ _ _ _ ((k5.trans k6).set (by omega)) (((h5.keep k6).keepF (by rw [size_set]; omega) fun id hi => get_set_ne _ _ _ _ ?_).le (by omega)) (((f5.keep k6).keepF (by rw [size_set]; omega) fun id hi => get_set_ne _ _ _ _ ?_).le (by omega)) o5
      · have := h5.above hi; omega
      · have := f5.above hi; omega
    · have hval : validTerminal (xss.set t0 (nth xss t0 [] ++ [b])) q (yss.set a0 xs1) = false := by simpa using hval
      simp only [go_sem, seval, get_set_same, get_set_ne, Nat.add_left_cancel_iff, hval, p3, p2, b6]
      rw [mkFin, if_neg (by simp [hval])] at hR
      exact hfail hR.symm _ ((k5.trans k6).set (by omega))
  · have c1 : (k == 1) = false := by simpa using hk1
    have c2 : (k == 2) = false := by simpa using hk2
    have c3 : (k == 3) = false := by simpa using hk3
    rw [show mkP xss q yss k b t = MK.no by unfold mkP; rw [if_neg hk1, if_neg hk2, if_neg hk3]] at hR
    simp only [go_sem, seval, get_set_same, get_set_ne, Nat.add_left_cancel_iff, c1, c2, c3, f2, b2]
    exact hfail hR.symm _ (kG.set (by omega))
end Go.Ah.A


namespace Go.Ah.A
open Go Go.Ah Go.Proofs
set_option linter.unusedSimpArgs false
variable {H : AHeap} {Kk : Value → AHeap → Prop}
/-- What the reference makes of an order. -/
def spP (y : List (List Int)) (q : Int) (s : List (List Int)) (k b t : Int) : MK :=
  if k = 3 then
    (if (place b s 0).1 < 0 ∨ (place b s 0).2 ≠ (nth s (place b s 0).1.toNat []).length - 1 then MK.no
     else if ¬ (0 ≤ t ∧ t ≤ y.length - 1) then MK.no else mkFin (putAt y t.toNat b) q (cutAt s (place b s 0).1.toNat) 0)
  else
    (if (place b y 0).1 < 0 ∨ (place b y 0).2 ≠ (nth y (place b y 0).1.toNat []).length - 1 ∨ k = 1 ∧ t = (place b y 0).1 then MK.no
     else if k = 1 then (if ¬ (0 ≤ t ∧ t ≤ y.length - 1) then MK.no else mkFin (putAt (cutAt y (place b y 0).1.toNat) t.toNat b) q s 0)
     else if k = 2 then (if ¬ (0 ≤ t ∧ t ≤ s.length - 1) then MK.no else mkFin (cutAt y (place b y 0).1.toNat) q (putAt s t.toNat b) 0)
     else MK.no)
theorem idx_spec {b : Int} : ∀ (xs : List Int) (i : Nat), idx b xs i < 0 ∨ ∃ a : Nat, idx b xs i = ((i + a : Nat) : Int) ∧ a < xs.length ∧ nth xs a 0 = b
  | [], i => .inl (by simp [idx])
  | x :: r, i => by
    unfold idx
    split
    · rename_i h; exact .inr ⟨0, rfl, by simp, h.symm⟩
    · rcases idx_spec r (i + 1) with h | ⟨a, h1, h2, h3⟩
      · exact .inl h
      · exact .inr ⟨a + 1, by rw [h1]; congr 1; omega, by simp; omega, h3⟩
theorem place_spec {b : Int} : ∀ (xss : List (List Int)) (i : Nat), (place b xss i = (-1, -1)) ∨ ∃ a c : Nat, place b xss i = (((i + a : Nat) : Int), (c : Int)) ∧ a < xss.length ∧ c < (nth xss a []).length ∧ nth (nth xss a []) c 0 = b
  | [], i => .inl (by simp [place])
  | s :: r, i => by
    unfold place
    split
    · rename_i h
      rcases idx_spec (b := b) s 0 with h2 | ⟨c, h1, h2, h3⟩
      · omega
      · exact .inr ⟨0, c, by rw [h1]; simp, by simp, h2, h3⟩
    · rcases place_spec r (i + 1) with h | ⟨a, c, h1, h2, h3⟩
      · exact .inl h
      · exact .inr ⟨a + 1, c, by rw [h1]; simp; omega, by simp; omega, h3⟩
set_option maxRecDepth 8000 in
set_option maxHeartbeats 4000000 in
theorem l24Make_c {v u : Value} {vs us : List Value} {xss yss : List (List Int)} {q k b t : Int} (h : IntsS H v vs xss) (g : IntsS H u us yss) (hs : Small xss) (hs' : Small yss)
    (hk : ∀ v' vs' u' us' H', AKeep H H' → HSS H.size H' v' vs' (spP xss q yss k b t).y → HSS H.size H' u' us' (spP xss q yss k b t).s → Off v' vs' u' us' → Kk (.tuple #[.agg #[v', .int .i64 (spP xss q yss k b t).q, u'], .bool (spP xss q yss k b t).ok]) H') : callA Try.prog 44 #[.agg #[v, .int .i64 q, u], .agg #[.int .i64 k, .int .i64 b, .int .i64 t]] H Kk := by
  refine call_go (fn := Try.f44) (rs := [.cell 4 38, .tmp 5]) [18, 22] (by kernel_rfl) rfl rfl follows (by kernel_rfl) ?_
  simp only [go_sem, seval, push_p, pushes_p, size_p, get_p, get_p0, set_p, set_p0]
  have k0 : AKeep H (pushes H [.rw 3 [v, .int .i64 q, u], .rw 3 [.int .i64 k, .int .i64 b, .int .i64 t], .rw 3 [.slice none 0 0, .int .i64 0, .slice none 0 0], .rw 3 [.slice none 0 0, .int .i64 0, .slice none 0 0]]) := keep_p
  refine l24Own_c (h.keep k0) (g.keep k0) hs hs' fun v' vs' u' us' H1 k1 h1 g1 o1 => ?_
  have hz1 := k1.size
  simp only [size_p, List.length_cons, List.length_nil] at hz1 h1 g1
  have e0 : H1.get H.size = .rw 3 [v, .int .i64 q, u] := by rw [k1.get _ (by rw [size_p]; simp), get_p0]; rfl
  have e1 : H1.get (H.size + 1) = .rw 3 [.int .i64 k, .int .i64 b, .int .i64 t] := by rw [k1.get _ (by rw [size_p]; simp), get_p]; rfl
  have e2 : H1.get (H.size + 2) = .rw 3 [.slice none 0 0, .int .i64 0, .slice none 0 0] := by rw [k1.get _ (by rw [size_p]; simp), get_p]; rfl
  have e3 : H1.get (H.size + 3) = .rw 3 [.slice none 0 0, .int .i64 0, .slice none 0 0] := by rw [k1.get _ (by rw [size_p]; simp), get_p]; rfl
  have n0 : H.size ≠ H1.size := by omega
  have n1 : H.size + 1 ≠ H1.size := by omega
  have n2 : H.size + 2 ≠ H1.size := by omega
  have n3 : H.size + 3 ≠ H1.size := by omega
  obtain ⟨a, m, c, rfl⟩ := h1.top.slice
  obtain ⟨a', m', c', rfl⟩ := g1.top.slice
  simp only [go_sem, seval, get_set_same, get_set_ne, Nat.add_left_cancel_iff, e1, get_push_ne _ _ _ n1, push_set]
  have kG : AKeep H (H1.push (.rw 3 [.slice a m c, .int .i64 q, .slice a' m' c'])) := (k0.trans k1).trans (AKeep.push _ _)
  have h2 := h1.keep (AKeep.push _ (.rw 3 [.slice a m c, .int .i64 q, .slice a' m' c']))
  have g2 := g1.keep (AKeep.push _ (.rw 3 [.slice a m c, .int .i64 q, .slice a' m' c']))
  have f0 : (H1.push (.rw 3 [.slice a m c, .int .i64 q, .slice a' m' c'])).get H.size = .rw 3 [v, .int .i64 q, u] := by rw [get_push_lt _ _ _ (by omega), e0]
  have f1 : (H1.push (.rw 3 [.slice a m c, .int .i64 q, .slice a' m' c'])).get (H.size + 1) = .rw 3 [.int .i64 k, .int .i64 b, .int .i64 t] := by rw [get_push_lt _ _ _ (by omega), e1]
  have f2 : (H1.push (.rw 3 [.slice a m c, .int .i64 q, .slice a' m' c'])).get (H.size + 2) = .rw 3 [.slice none 0 0, .int .i64 0, .slice none 0 0] := by rw [get_push_lt _ _ _ (by omega), e2]
  have f3 : (H1.push (.rw 3 [.slice a m c, .int .i64 q, .slice a' m' c'])).get (H.size + 3) = .rw 3 [.slice none 0 0, .int .i64 0, .slice none 0 0] := by rw [get_push_lt _ _ _ (by omega), e3]
  have f4 : (H1.push (.rw 3 [.slice a m c, .int .i64 q, .slice a' m' c'])).get H1.size = .rw 3 [.slice a m c, .int .i64 q, .slice a' m' c'] := get_push_same _ _
  have hzz : (H1.push (.rw 3 [.slice a m c, .int .i64 q, .slice a' m' c'])).size = H1.size + 1 := size_push _ _
  generalize hGe : H1.push (.rw 3 [.slice a m c, .int .i64 q, .slice a' m' c']) = G at *
  obtain ⟨R, hR⟩ : ∃ R, spP xss q yss k b t = R := ⟨_, rfl⟩
  rw [hR] at hk
  have b2 : H.size + 2 < G.size := by omega
  have hfail : R = MK.no → ∀ G', AKeep H G' → Kk (.tuple #[.agg #[.slice none 0 0, .int .i64 0, .slice none 0 0], .bool false]) G' := fun e G' kG' => by
    subst e
    exact hk _ [] _ [] _ kG' hss_nil hss_nil fun id hi => absurd hi inF_nil
  have hG := h.keep kG
  have gG := g.keep kG
  have bs0 := hs.1
  have bs1 := hs'.1
  have hwx : IntKind.i64.wrap ((xss.length : Int) - 1) = (xss.length : Int) - 1 := wrap_id (by omega) (by omega)
  have hwy : IntKind.i64.wrap ((yss.length : Int) - 1) = (yss.length : Int) - 1 := wrap_id (by omega) (by omega)
  by_cases hk3 : k = 3
  · subst hk3
    have c3 : ((3 : Int) == 3) = true := rfl
    have c1 : ((3 : Int) == 1) = false := rfl
    unfold spP at hR
    rw [if_pos rfl] at hR
    simp only [go_sem, seval, get_set_same, get_set_ne, Nat.add_left_cancel_iff, c3, f0, f1]
    refine l9Find_c gG fun G1 kk1 => ?_
    have zz1 := kk1.size
    have f0 : G1.get H.size = .rw 3 [v, .int .i64 q, u] := by rw [kk1.get _ (by omega), f0]
    have f1 : G1.get (H.size + 1) = .rw 3 [.int .i64 3, .int .i64 b, .int .i64 t] := by rw [kk1.get _ (by omega), f1]
    have f2 : G1.get (H.size + 2) = .rw 3 [.slice none 0 0, .int .i64 0, .slice none 0 0] := by rw [kk1.get _ (by omega), f2]
    have f3 : G1.get (H.size + 3) = .rw 3 [.slice none 0 0, .int .i64 0, .slice none 0 0] := by rw [kk1.get _ (by omega), f3]
    have f4 : G1.get H1.size = .rw 3 [.slice a m c, .int .i64 q, .slice a' m' c'] := by rw [kk1.get _ (by omega), f4]
    have b2 : H.size + 2 < G1.size := by omega
    have h2 := h2.keep kk1
    have g2 := g2.keep kk1
    simp only [go_sem, seval, get_set_same, get_set_ne, Nat.add_left_cancel_iff, f0, f1]
    rcases place_spec (b := b) yss 0 with hp | ⟨a0, c0, hp, hal, hcl, hbb⟩
    · have ha' : decide ((-1 : Int) < 0) = true := rfl
      rw [hp] at hR ⊢
      rw [if_pos (.inl (by omega))] at hR
      simp only [go_sem, seval, get_set_same, get_set_ne, Nat.add_left_cancel_iff, ha', f3, f2, b2]
      exact hfail hR.symm _ ((kG.trans kk1).set (by omega))
    rw [Nat.zero_add] at hp
    rw [hp] at hR ⊢
    have ha' : decide ((a0 : Int) < 0) = false := by simp
    have hrr := (gG.keep kk1).2.2 a0 hal
    have hlen := hs'.2 a0 hal
    have hw2 : IntKind.i64.wrap (((nth yss a0 []).length : Int) - 1) = (((nth yss a0 []).length - 1 : Nat) : Int) := by
      rw [wrap_id (by omega) (by omega)]; omega
    simp only [go_sem, seval, get_set_same, get_set_ne, Nat.add_left_cancel_iff, ha', f0, intss_index (gG.keep kk1), intss_load (gG.keep kk1), hal, ints_len hrr, hw2]
    have et : ((a0 : Int)).toNat = a0 := by omega
    dsimp only at hR
    rw [et] at hR
    by_cases hc0 : c0 = (nth yss a0 []).length - 1
    rotate_left
    · have hc0' : ((c0 : Int) != (((nth yss a0 []).length - 1 : Nat) : Int)) = true := by simp; omega
      rw [if_pos (by omega)] at hR
      simp only [go_sem, seval, get_set_same, get_set_ne, Nat.add_left_cancel_iff, hc0', f3, f2, b2]
      exact hfail hR.symm _ ((kG.trans kk1).set (by omega))
    have hc0' : ((c0 : Int) != (((nth yss a0 []).length - 1 : Nat) : Int)) = false := by simp; omega
    simp only [go_sem, seval, get_set_same, get_set_ne, Nat.add_left_cancel_iff, hc0', c3, f4, f1]
    have hr := g2.rows a0 hal
    simp only [go_sem, seval, get_set_same, get_set_ne, Nat.add_left_cancel_iff, intss_index g2.intss, intss_load g2.intss, hal]
    refine hd_cut hr (by simp only [go_sem, seval]) (by omega) fun w hw3 hw4 => ?_
    simp only [go_sem, seval, intss_index g2.intss, hal]
    obtain ⟨xs1, hxs1⟩ : ∃ xs1, (nth yss a0 []).take ((nth yss a0 []).length - 1) = xs1 := ⟨_, rfl⟩
    have hl1 : xs1.length = (nth yss a0 []).length - 1 := by rw [← hxs1, List.length_take]; omega
    rw [Nat.mul_one, ← List.map_take, hc0, hxs1, ← hl1] at hw3
    refine hss_put g2 hal hw3 (Nat.le_refl _) (fun _ _ _ => rfl) (fun id e => .inl (by rw [← hw4]; exact e)) (by simp only [go_sem, seval]) fun G2 h3f hz2 hf2 hi2 => ?_
    have lof : ∀ id, id < H.size + 4 → idOf (.slice a' m' c') ≠ some id := fun id hi e => by have := g2.above (.inl e); omega
    have nof : idOf (.slice a' m' c') ≠ some H1.size := fun e => by have := g1.low (.inl e); omega
    have p1 : G2.get (H.size + 1) = .rw 3 [.int .i64 3, .int .i64 b, .int .i64 t] := by rw [hf2 _ (lof _ (by omega)), f1]
    have p2 : G2.get (H.size + 2) = .rw 3 [.slice none 0 0, .int .i64 0, .slice none 0 0] := by rw [hf2 _ (lof _ (by omega)), f2]
    have p3 : G2.get (H.size + 3) = .rw 3 [.slice none 0 0, .int .i64 0, .slice none 0 0] := by rw [hf2 _ (lof _ (by omega)), f3]
    have p4 : G2.get H1.size = .rw 3 [.slice a m c, .int .i64 q, .slice a' m' c'] := by rw [hf2 _ nof, f4]
    have b22 : H.size + 2 < G2.size := by omega
    have kk2 : AKeep H G2 := ⟨by have := kG.size; omega, fun id hi => by rw [hf2 id (lof id (by omega)), kk1.get id (by have := kG.size; omega), kG.get id hi]⟩
    simp only [go_sem, seval, get_set_same, get_set_ne, Nat.add_left_cancel_iff, p1, c1, c3]
    have h3 := h2.keepF (G' := G2) (by omega) fun id hi => hf2 id fun e => o1 id hi (.inl e)
    have o3 : Off (.slice a m c) vs' (.slice a' m' c') (us'.set a0 w) := fun id h4 h5 => by
      rcases hi2 id h5 with h5 | h5
      · exact o1 id h4 h5
      · have := h2.low h4; omega
    have nt : idOf (.slice a m c) ≠ some H1.size := fun e => by have := h1.low (.inl e); omega
    have hwt := hwx
    have est : (3 : Int) = 3 := rfl
    rw [if_neg (by omega)] at hR
    simp only [go_sem, seval, get_set_same, get_set_ne, Nat.add_left_cancel_iff, p1, p4, intss_len h3.intss, hwt]
    refine l1In_c ?_
    by_cases hb : 0 ≤ t ∧ t ≤ xss.length - 1
    rotate_left
    · have hb' : (decide (0 ≤ t) && decide (t ≤ ((xss.length : Nat) : Int) - 1)) = false := by simpa using hb
      rw [if_pos hb] at hR
      simp only [go_sem, seval, get_set_same, get_set_ne, Nat.add_left_cancel_iff, hb', p2, p3, b22]
      exact hfail hR.symm _ (kk2.set (by omega))
    have hb' : (decide (0 ≤ t) && decide (t ≤ ((xss.length : Nat) : Int) - 1)) = true := by simpa using hb
    obtain ⟨t0, rfl⟩ : ∃ t0 : Nat, t = t0 := ⟨t.toNat, by omega⟩
    rw [if_neg (by omega)] at hR
    have htl0 : t0 < xss.length := by omega
    have htl : t0 < xss.length := by first | exact htl0 | (rw [List.length_set]; exact htl0)
    have hrow := h3.rows t0 htl
    have hrl : (nth xss t0 []).length ≤ 1048576 := hs.2 t0 htl
    simp only [go_sem, seval, get_set_same, get_set_ne, Nat.add_left_cancel_iff, hb', p1, p4, intss_index h3.intss, intss_load h3.intss, htl]
    refine l1Own_c hrow.ints hrl fun w1 G3 kk3 hw1 => ?_
    have zz3 := kk3.size
    have p1 : G3.get (H.size + 1) = .rw 3 [.int .i64 3, .int .i64 b, .int .i64 t0] := by rw [kk3.get _ (by omega), p1]
    have hh3 := h3.keep kk3
    simp only [go_sem, seval, p1]
    refine ⟨draw2_keep kk3, ?_⟩
    refine hd_app (Hd.of (OwnN.of (hw1.keep (AKeep.push _ _)))) (by rw [size_push]; omega) (by rfl) (by rfl) (by omega) (by unfold big; omega) fun w2 G4 hw5 hz4 hf4 hn4 => ?_
    refine ⟨draw2_weak (by kernel_rfl), ?_⟩
    simp only [go_sem, seval, intss_index hh3.intss, htl]
    rw [size_push] at hz4
    refine hss_put h3 htl (xs := nth xss t0 [] ++ [b]) (G' := G4) (by rw [List.length_append, List.map_append]; exact hw5.le (by omega)) (by omega) (fun id hi _ => ?_) (fun id e => .inr ?_) (by simp only [go_sem, seval]) fun G5 h5 hz5 hf5 hi5 => ?_
    · rw [hf4 id (by rw [size_push]; omega) (fun e => by have := hw1.above _ e; omega), get_push_lt _ _ _ (by omega), kk3.get id hi]
    · rcases hn4 id e with h4 | h4
      · have := hw1.above _ h4; omega
      · rw [size_push] at h4; omega
    simp only [go_sem, seval]
    have old : ∀ id, id < G2.size → G4.get id = G2.get id := fun id hi => by
      rw [hf4 id (by rw [size_push]; omega) (fun e => by have := hw1.above _ e; omega), get_push_lt _ _ _ (by omega), kk3.get id hi]
    have old3 : ∀ id, id < G2.size → G4.get id = (G3.push (.rw 1 [.int .i64 b])).get id := fun id hi => by
      rw [hf4 id (by rw [size_push]; omega) (fun e => by have := hw1.above _ e; omega)]
    refine ⟨floatCond_cons (l := []) (by kernel_rfl) floatOne_nil (floatCond_cons (l := [.tmp 118, .tmp 120]) (by kernel_rfl) (floatOne_cons (fun id e => ?_) (floatOne_cons (fun id e => ?_) floatOne_nil)) (by rw [float_keep kk3]; simp only [go_sem, seval])), ?_⟩
    · simp only [go_sem, seval] at e
      obtain rfl : H1.size = id := by cases e; rfl
      exact old3 _ (by omega)
    · simp only [go_sem, seval] at e
      obtain rfl : H.size + 1 = id := by cases e; rfl
      exact old3 _ (by omega)
    have lot : ∀ id, id < H.size + 4 → idOf (.slice a m c) ≠ some id := fun id hi e => by have := h3.above (.inl e); omega
    have p4 : G5.get H1.size = .rw 3 [.slice a m c, .int .i64 q, .slice a' m' c'] := by rw [hf5 _ nt, old _ (by omega), p4]
    have p2 : G5.get (H.size + 2) = .rw 3 [.slice none 0 0, .int .i64 0, .slice none 0 0] := by rw [hf5 _ (lot _ (by omega)), old _ (by omega), p2]
    have p3 : G5.get (H.size + 3) = .rw 3 [.slice none 0 0, .int .i64 0, .slice none 0 0] := by rw [hf5 _ (lot _ (by omega)), old _ (by omega), p3]
    have k5 : AKeep H G5 := ⟨by have := kk2.size; omega, fun id hi => by rw [hf5 _ (lot _ (by omega)), old _ (by omega), kk2.get id hi]⟩
    have g5 := h3f.keepF (G' := G5) (by omega) fun id hi => by rw [hf5 id fun e => o3 id (.inl e) hi, old id (h3f.low hi)]
    have o5 : Off (.slice a m c) (vs'.set t0 w2) (.slice a' m' c') (us'.set a0 w) := fun id hi hi' => by
      have := h3f.low hi'
      rcases hi5 id hi with h4 | h4
      · exact o3 id h4 hi'
      · omega
    simp only [go_sem, seval, p4]
    refine l24Good_c h5.intss g5.intss fun G6 k6 => ?_
    have zz6 := k6.size
    have p2 : G6.get (H.size + 2) = .rw 3 [.slice none 0 0, .int .i64 0, .slice none 0 0] := by rw [k6.get _ (by omega), p2]
    have p3 : G6.get (H.size + 3) = .rw 3 [.slice none 0 0, .int .i64 0, .slice none 0 0] := by rw [k6.get _ (by omega), p3]
    have p4 : G6.get H1.size = .rw 3 [.slice a m c, .int .i64 q, .slice a' m' c'] := by rw [k6.get _ (by omega), p4]
    have b6 : H.size + 2 < G6.size := by omega
    have hR : mkFin (xss.set t0 (nth xss t0 [] ++ [b])) q (yss.set a0 xs1) 0 = R := by
      rw [← hR, ← hxs1]; rfl
    by_cases hval : validTerminal (xss.set t0 (nth xss t0 [] ++ [b])) q (yss.set a0 xs1) = true
    · simp only [go_sem, seval, get_set_same, get_set_ne, Nat.add_left_cancel_iff, hval, p4, p2, b6]
      rw [mkFin, if_pos hval] at hR
      subst hR
      refine hk _ _ _ _ _ ((k5.trans k6).set (by omega)) (((h5.keep k6).keepF (by rw [size_set]; omega) fun id hi => get_set_ne _ _ _ _ ?_).le (by omega)) (((g5.keep k6).keepF (by rw [size_set]; omega) fun id hi => get_set_ne _ _ _ _ ?_).le (by omega)) o5
      · have := h5.above hi; omega
      · have := g5.above hi; omega
    · have hval : validTerminal (xss.set t0 (nth xss t0 [] ++ [b])) q (yss.set a0 xs1) = false := by simpa using hval
      simp only [go_sem, seval, get_set_same, get_set_ne, Nat.add_left_cancel_iff, hval, p3, p2, b6]
      rw [mkFin, if_neg (by simp [hval])] at hR
      exact hfail hR.symm _ ((k5.trans k6).set (by omega))
  by_cases hk1 : k = 1
  · subst hk1
    have c3 : ((1 : Int) == 3) = false := rfl
    have c1 : ((1 : Int) == 1) = true := rfl
    unfold spP at hR
    rw [if_neg (by omega)] at hR
    simp only [go_sem, seval, get_set_same, get_set_ne, Nat.add_left_cancel_iff, c3, f0, f1]
    refine l5Find_c hG fun G1 kk1 => ?_
    have zz1 := kk1.size
    have f0 : G1.get H.size = .rw 3 [v, .int .i64 q, u] := by rw [kk1.get _ (by omega), f0]
    have f1 : G1.get (H.size + 1) = .rw 3 [.int .i64 1, .int .i64 b, .int .i64 t] := by rw [kk1.get _ (by omega), f1]
    have f2 : G1.get (H.size + 2) = .rw 3 [.slice none 0 0, .int .i64 0, .slice none 0 0] := by rw [kk1.get _ (by omega), f2]
    have f3 : G1.get (H.size + 3) = .rw 3 [.slice none 0 0, .int .i64 0, .slice none 0 0] := by rw [kk1.get _ (by omega), f3]
    have f4 : G1.get H1.size = .rw 3 [.slice a m c, .int .i64 q, .slice a' m' c'] := by rw [kk1.get _ (by omega), f4]
    have b2 : H.size + 2 < G1.size := by omega
    have h2 := h2.keep kk1
    have g2 := g2.keep kk1
    simp only [go_sem, seval, get_set_same, get_set_ne, Nat.add_left_cancel_iff, f0, f1]
    rcases place_spec (b := b) xss 0 with hp | ⟨a0, c0, hp, hal, hcl, hbb⟩
    · have ha' : decide ((-1 : Int) < 0) = true := rfl
      rw [hp] at hR ⊢
      rw [if_pos (.inl (by omega))] at hR
      simp only [go_sem, seval, get_set_same, get_set_ne, Nat.add_left_cancel_iff, ha', c1, f1, f3, f2, b2]
      exact hfail hR.symm _ ((kG.trans kk1).set (by omega))
    rw [Nat.zero_add] at hp
    rw [hp] at hR ⊢
    have ha' : decide ((a0 : Int) < 0) = false := by simp
    have hrr := (hG.keep kk1).2.2 a0 hal
    have hlen := hs.2 a0 hal
    have hw2 : IntKind.i64.wrap (((nth xss a0 []).length : Int) - 1) = (((nth xss a0 []).length - 1 : Nat) : Int) := by
      rw [wrap_id (by omega) (by omega)]; omega
    simp only [go_sem, seval, get_set_same, get_set_ne, Nat.add_left_cancel_iff, ha', f0, intss_index (hG.keep kk1), intss_load (hG.keep kk1), hal, ints_len hrr, hw2]
    have et : ((a0 : Int)).toNat = a0 := by omega
    dsimp only at hR
    rw [et] at hR
    by_cases hc0 : c0 = (nth xss a0 []).length - 1
    rotate_left
    · have hc0' : ((c0 : Int) != (((nth xss a0 []).length - 1 : Nat) : Int)) = true := by simp; omega
      rw [if_pos (.inr (.inl (by omega)))] at hR
      simp only [go_sem, seval, get_set_same, get_set_ne, Nat.add_left_cancel_iff, hc0', c1, f1, f3, f2, b2]
      exact hfail hR.symm _ ((kG.trans kk1).set (by omega))
    have hc0' : ((c0 : Int) != (((nth xss a0 []).length - 1 : Nat) : Int)) = false := by simp; omega
    by_cases hta : t = a0
    · have hta' : (t == (a0 : Int)) = true := by simpa using hta
      rw [if_pos (.inr (.inr ⟨rfl, hta⟩))] at hR
      simp only [go_sem, seval, get_set_same, get_set_ne, Nat.add_left_cancel_iff, hc0', hta', c1, f1, f3, f2, b2]
      exact hfail hR.symm _ ((kG.trans kk1).set (by omega))
    have hta' : (t == (a0 : Int)) = false := by simpa using hta
    rw [if_neg (by omega), if_pos rfl] at hR
    simp only [go_sem, seval, get_set_same, get_set_ne, Nat.add_left_cancel_iff, hc0', hta', c1, f4, f1]
    try simp only [go_sem, seval, get_set_same, get_set_ne, Nat.add_left_cancel_iff, hc0', c1, f4, f1]
    have hr := h2.rows a0 hal
    simp only [go_sem, seval, get_set_same, get_set_ne, Nat.add_left_cancel_iff, intss_index h2.intss, intss_load h2.intss, hal]
    refine hd_cut hr (by simp only [go_sem, seval]) (by omega) fun w hw3 hw4 => ?_
    simp only [go_sem, seval, intss_index h2.intss, hal]
    obtain ⟨xs1, hxs1⟩ : ∃ xs1, (nth xss a0 []).take ((nth xss a0 []).length - 1) = xs1 := ⟨_, rfl⟩
    have hl1 : xs1.length = (nth xss a0 []).length - 1 := by rw [← hxs1, List.length_take]; omega
    rw [Nat.mul_one, ← List.map_take, hc0, hxs1, ← hl1] at hw3
    refine hss_put h2 hal hw3 (Nat.le_refl _) (fun _ _ _ => rfl) (fun id e => .inl (by rw [← hw4]; exact e)) (by simp only [go_sem, seval]) fun G2 h3f hz2 hf2 hi2 => ?_
    have lof : ∀ id, id < H.size + 4 → idOf (.slice a m c) ≠ some id := fun id hi e => by have := h2.above (.inl e); omega
    have nof : idOf (.slice a m c) ≠ some H1.size := fun e => by have := h1.low (.inl e); omega
    have p1 : G2.get (H.size + 1) = .rw 3 [.int .i64 1, .int .i64 b, .int .i64 t] := by rw [hf2 _ (lof _ (by omega)), f1]
    have p2 : G2.get (H.size + 2) = .rw 3 [.slice none 0 0, .int .i64 0, .slice none 0 0] := by rw [hf2 _ (lof _ (by omega)), f2]
    have p3 : G2.get (H.size + 3) = .rw 3 [.slice none 0 0, .int .i64 0, .slice none 0 0] := by rw [hf2 _ (lof _ (by omega)), f3]
    have p4 : G2.get H1.size = .rw 3 [.slice a m c, .int .i64 q, .slice a' m' c'] := by rw [hf2 _ nof, f4]
    have b22 : H.size + 2 < G2.size := by omega
    have kk2 : AKeep H G2 := ⟨by have := kG.size; omega, fun id hi => by rw [hf2 id (lof id (by omega)), kk1.get id (by have := kG.size; omega), kG.get id hi]⟩
    simp only [go_sem, seval, get_set_same, get_set_ne, Nat.add_left_cancel_iff, p1, c1, c3]
    have h3 := g2.keepF (G' := G2) (by omega) fun id hi => hf2 id fun e => o1 id (.inl e) hi
    have o3 : Off (.slice a m c) (vs'.set a0 w) (.slice a' m' c') us' := fun id h5 h4 => by
      rcases hi2 id h5 with h5 | h5
      · exact o1 id h5 h4
      · have := g2.low h4; omega
    have nt : idOf (.slice a m c) ≠ some H1.size := fun e => by have := h1.low (.inl e); omega
    have hwt : IntKind.i64.wrap (((xss.set a0 xs1).length : Int) - 1) = (xss.length : Int) - 1 := by rw [List.length_set]; exact hwx
    have lse : (xss.set a0 xs1).length = xss.length := List.length_set
    simp only [go_sem, seval, get_set_same, get_set_ne, Nat.add_left_cancel_iff, p1, p4, intss_len h3f.intss, hwt]
    refine l1In_c ?_
    by_cases hb : 0 ≤ t ∧ t ≤ xss.length - 1
    rotate_left
    · have hb' : (decide (0 ≤ t) && decide (t ≤ ((xss.length : Nat) : Int) - 1)) = false := by simpa using hb
      rw [if_pos hb] at hR
      simp only [go_sem, seval, get_set_same, get_set_ne, Nat.add_left_cancel_iff, hb', p2, p3, b22]
      exact hfail hR.symm _ (kk2.set (by omega))
    have hb' : (decide (0 ≤ t) && decide (t ≤ ((xss.length : Nat) : Int) - 1)) = true := by simpa using hb
    obtain ⟨t0, rfl⟩ : ∃ t0 : Nat, t = t0 := ⟨t.toNat, by omega⟩
    rw [if_neg (by omega)] at hR
    have htl0 : t0 < xss.length := by omega
    have htl : t0 < (xss.set a0 xs1).length := by first | exact htl0 | (rw [List.length_set]; exact htl0)
    have hrow := h3f.rows t0 htl
    have hrl : (nth (xss.set a0 xs1) t0 []).length ≤ 1048576 := by (by_cases e : a0 = t0; (subst e; rw [nth_set_eq hal]; omega); (rw [nth_set_ne e]; exact hs.2 t0 htl0))
    simp only [go_sem, seval, get_set_same, get_set_ne, Nat.add_left_cancel_iff, hb', p1, p4, intss_index h3f.intss, intss_load h3f.intss, htl]
    refine l1Own_c hrow.ints hrl fun w1 G3 kk3 hw1 => ?_
    have zz3 := kk3.size
    have p1 : G3.get (H.size + 1) = .rw 3 [.int .i64 1, .int .i64 b, .int .i64 t0] := by rw [kk3.get _ (by omega), p1]
    have hh3 := h3f.keep kk3
    simp only [go_sem, seval, p1]
    refine ⟨draw2_keep kk3, ?_⟩
    refine hd_app (Hd.of (OwnN.of (hw1.keep (AKeep.push _ _)))) (by rw [size_push]; omega) (by rfl) (by rfl) (by omega) (by unfold big; omega) fun w2 G4 hw5 hz4 hf4 hn4 => ?_
    refine ⟨draw2_weak (by kernel_rfl), ?_⟩
    simp only [go_sem, seval, intss_index hh3.intss, htl]
    rw [size_push] at hz4
    refine hss_put h3f htl (xs := nth (xss.set a0 xs1) t0 [] ++ [b]) (G' := G4) (by rw [List.length_append, List.map_append]; exact hw5.le (by omega)) (by omega) (fun id hi _ => ?_) (fun id e => .inr ?_) (by simp only [go_sem, seval]) fun G5 h5 hz5 hf5 hi5 => ?_
    · rw [hf4 id (by rw [size_push]; omega) (fun e => by have := hw1.above _ e; omega), get_push_lt _ _ _ (by omega), kk3.get id hi]
    · rcases hn4 id e with h4 | h4
      · have := hw1.above _ h4; omega
      · rw [size_push] at h4; omega
    simp only [go_sem, seval]
    have old : ∀ id, id < G2.size → G4.get id = G2.get id := fun id hi => by
      rw [hf4 id (by rw [size_push]; omega) (fun e => by have := hw1.above _ e; omega), get_push_lt _ _ _ (by omega), kk3.get id hi]
    have old3 : ∀ id, id < G2.size → G4.get id = (G3.push (.rw 1 [.int .i64 b])).get id := fun id hi => by
      rw [hf4 id (by rw [size_push]; omega) (fun e => by have := hw1.above _ e; omega)]
    refine ⟨floatCond_cons (l := []) (by kernel_rfl) floatOne_nil (floatCond_cons (l := [.tmp 118, .tmp 120]) (by kernel_rfl) (floatOne_cons (fun id e => ?_) (floatOne_cons (fun id e => ?_) floatOne_nil)) (by rw [float_keep kk3]; simp only [go_sem, seval])), ?_⟩
    · simp only [go_sem, seval] at e
      obtain rfl : H1.size = id := by cases e; rfl
      exact old3 _ (by omega)
    · simp only [go_sem, seval] at e
      obtain rfl : H.size + 1 = id := by cases e; rfl
      exact old3 _ (by omega)
    have lot : ∀ id, id < H.size + 4 → idOf (.slice a m c) ≠ some id := fun id hi e => by have := h3f.above (.inl e); omega
    have p4 : G5.get H1.size = .rw 3 [.slice a m c, .int .i64 q, .slice a' m' c'] := by rw [hf5 _ nt, old _ (by omega), p4]
    have p2 : G5.get (H.size + 2) = .rw 3 [.slice none 0 0, .int .i64 0, .slice none 0 0] := by rw [hf5 _ (lot _ (by omega)), old _ (by omega), p2]
    have p3 : G5.get (H.size + 3) = .rw 3 [.slice none 0 0, .int .i64 0, .slice none 0 0] := by rw [hf5 _ (lot _ (by omega)), old _ (by omega), p3]
    have k5 : AKeep H G5 := ⟨by have := kk2.size; omega, fun id hi => by rw [hf5 _ (lot _ (by omega)), old _ (by omega), kk2.get id hi]⟩
    have g5 := h3.keepF (G' := G5) (by omega) fun id hi => by rw [hf5 id fun e => o3 id (.inl e) hi, old id (h3.low hi)]
    have o5 : Off (.slice a m c) ((vs'.set a0 w).set t0 w2) (.slice a' m' c') us' := fun id hi hi' => by
      have := h3.low hi'
      rcases hi5 id hi with h4 | h4
      · exact o3 id h4 hi'
      · omega
    simp only [go_sem, seval, p4]
    refine l24Good_c h5.intss g5.intss fun G6 k6 => ?_
    have zz6 := k6.size
    have p2 : G6.get (H.size + 2) = .rw 3 [.slice none 0 0, .int .i64 0, .slice none 0 0] := by rw [k6.get _ (by omega), p2]
    have p3 : G6.get (H.size + 3) = .rw 3 [.slice none 0 0, .int .i64 0, .slice none 0 0] := by rw [k6.get _ (by omega), p3]
    have p4 : G6.get H1.size = .rw 3 [.slice a m c, .int .i64 q, .slice a' m' c'] := by rw [k6.get _ (by omega), p4]
    have b6 : H.size + 2 < G6.size := by omega
    have hR : mkFin ((xss.set a0 xs1).set t0 (nth (xss.set a0 xs1) t0 [] ++ [b])) q yss 0 = R := by
      rw [← hR, ← hxs1]; rfl
    by_cases hval : validTerminal ((xss.set a0 xs1).set t0 (nth (xss.set a0 xs1) t0 [] ++ [b])) q yss = true
    · simp only [go_sem, seval, get_set_same, get_set_ne, Nat.add_left_cancel_iff, hval, p4, p2, b6]
      rw [mkFin, if_pos hval] at hR
      subst hR
      refine hk _ _ _ _ _ ((k5.trans k6).set (by omega)) (((h5.keep k6).keepF (by rw [size_set]; omega) fun id hi => get_set_ne _ _ _ _ ?_).le (by omega)) (((g5.keep k6).keepF (by rw [size_set]; omega) fun id hi => get_set_ne _ _ _ _ ?_).le (by omega)) o5
      · have := h5.above hi; omega
      · have := g5.above hi; omega
    · have hval : validTerminal ((xss.set a0 xs1).set t0 (nth (xss.set a0 xs1) t0 [] ++ [b])) q yss = false := by simpa using hval
      simp only [go_sem, seval, get_set_same, get_set_ne, Nat.add_left_cancel_iff, hval, p3, p2, b6]
      rw [mkFin, if_neg (by simp [hval])] at hR
      exact hfail hR.symm _ ((k5.trans k6).set (by omega))
  by_cases hk2 : k = 2
  · subst hk2
    have c3 : ((2 : Int) == 3) = false := rfl
    have c1 : ((2 : Int) == 1) = false := rfl
    have c2 : ((2 : Int) == 2) = true := rfl
    unfold spP at hR
    rw [if_neg (by omega)] at hR
    simp only [go_sem, seval, get_set_same, get_set_ne, Nat.add_left_cancel_iff, c3, f0, f1]
    refine l5Find_c hG fun G1 kk1 => ?_
    have zz1 := kk1.size
    have f0 : G1.get H.size = .rw 3 [v, .int .i64 q, u] := by rw [kk1.get _ (by omega), f0]
    have f1 : G1.get (H.size + 1) = .rw 3 [.int .i64 2, .int .i64 b, .int .i64 t] := by rw [kk1.get _ (by omega), f1]
    have f2 : G1.get (H.size + 2) = .rw 3 [.slice none 0 0, .int .i64 0, .slice none 0 0] := by rw [kk1.get _ (by omega), f2]
    have f3 : G1.get (H.size + 3) = .rw 3 [.slice none 0 0, .int .i64 0, .slice none 0 0] := by rw [kk1.get _ (by omega), f3]
    have f4 : G1.get H1.size = .rw 3 [.slice a m c, .int .i64 q, .slice a' m' c'] := by rw [kk1.get _ (by omega), f4]
    have b2 : H.size + 2 < G1.size := by omega
    have h2 := h2.keep kk1
    have g2 := g2.keep kk1
    simp only [go_sem, seval, get_set_same, get_set_ne, Nat.add_left_cancel_iff, f0, f1]
    rcases place_spec (b := b) xss 0 with hp | ⟨a0, c0, hp, hal, hcl, hbb⟩
    · have ha' : decide ((-1 : Int) < 0) = true := rfl
      rw [hp] at hR ⊢
      rw [if_pos (.inl (by omega))] at hR
      simp only [go_sem, seval, get_set_same, get_set_ne, Nat.add_left_cancel_iff, ha', c1, f1, f3, f2, b2]
      exact hfail hR.symm _ ((kG.trans kk1).set (by omega))
    rw [Nat.zero_add] at hp
    rw [hp] at hR ⊢
    have ha' : decide ((a0 : Int) < 0) = false := by simp
    have hrr := (hG.keep kk1).2.2 a0 hal
    have hlen := hs.2 a0 hal
    have hw2 : IntKind.i64.wrap (((nth xss a0 []).length : Int) - 1) = (((nth xss a0 []).length - 1 : Nat) : Int) := by
      rw [wrap_id (by omega) (by omega)]; omega
    simp only [go_sem, seval, get_set_same, get_set_ne, Nat.add_left_cancel_iff, ha', f0, intss_index (hG.keep kk1), intss_load (hG.keep kk1), hal, ints_len hrr, hw2]
    have et : ((a0 : Int)).toNat = a0 := by omega
    dsimp only at hR
    rw [et] at hR
    by_cases hc0 : c0 = (nth xss a0 []).length - 1
    rotate_left
    · have hc0' : ((c0 : Int) != (((nth xss a0 []).length - 1 : Nat) : Int)) = true := by simp; omega
      rw [if_pos (.inr (.inl (by omega)))] at hR
      simp only [go_sem, seval, get_set_same, get_set_ne, Nat.add_left_cancel_iff, hc0', c1, f1, f3, f2, b2]
      exact hfail hR.symm _ ((kG.trans kk1).set (by omega))
    have hc0' : ((c0 : Int) != (((nth xss a0 []).length - 1 : Nat) : Int)) = false := by simp; omega
    rw [if_neg (by omega), if_neg (by omega), if_pos rfl] at hR
    try simp only [go_sem, seval, get_set_same, get_set_ne, Nat.add_left_cancel_iff, hc0', c1, f4, f1]
    have hr := h2.rows a0 hal
    simp only [go_sem, seval, get_set_same, get_set_ne, Nat.add_left_cancel_iff, intss_index h2.intss, intss_load h2.intss, hal]
    refine hd_cut hr (by simp only [go_sem, seval]) (by omega) fun w hw3 hw4 => ?_
    simp only [go_sem, seval, intss_index h2.intss, hal]
    obtain ⟨xs1, hxs1⟩ : ∃ xs1, (nth xss a0 []).take ((nth xss a0 []).length - 1) = xs1 := ⟨_, rfl⟩
    have hl1 : xs1.length = (nth xss a0 []).length - 1 := by rw [← hxs1, List.length_take]; omega
    rw [Nat.mul_one, ← List.map_take, hc0, hxs1, ← hl1] at hw3
    refine hss_put h2 hal hw3 (Nat.le_refl _) (fun _ _ _ => rfl) (fun id e => .inl (by rw [← hw4]; exact e)) (by simp only [go_sem, seval]) fun G2 h3f hz2 hf2 hi2 => ?_
    have lof : ∀ id, id < H.size + 4 → idOf (.slice a m c) ≠ some id := fun id hi e => by have := h2.above (.inl e); omega
    have nof : idOf (.slice a m c) ≠ some H1.size := fun e => by have := h1.low (.inl e); omega
    have p1 : G2.get (H.size + 1) = .rw 3 [.int .i64 2, .int .i64 b, .int .i64 t] := by rw [hf2 _ (lof _ (by omega)), f1]
    have p2 : G2.get (H.size + 2) = .rw 3 [.slice none 0 0, .int .i64 0, .slice none 0 0] := by rw [hf2 _ (lof _ (by omega)), f2]
    have p3 : G2.get (H.size + 3) = .rw 3 [.slice none 0 0, .int .i64 0, .slice none 0 0] := by rw [hf2 _ (lof _ (by omega)), f3]
    have p4 : G2.get H1.size = .rw 3 [.slice a m c, .int .i64 q, .slice a' m' c'] := by rw [hf2 _ nof, f4]
    have b22 : H.size + 2 < G2.size := by omega
    have kk2 : AKeep H G2 := ⟨by have := kG.size; omega, fun id hi => by rw [hf2 id (lof id (by omega)), kk1.get id (by have := kG.size; omega), kG.get id hi]⟩
    simp only [go_sem, seval, get_set_same, get_set_ne, Nat.add_left_cancel_iff, p1, c1, c2, c3]
    have h3 := g2.keepF (G' := G2) (by omega) fun id hi => hf2 id fun e => o1 id (.inl e) hi
    have o3 : Off (.slice a' m' c') us' (.slice a m c) (vs'.set a0 w) := fun id h4 h5 => by
      rcases hi2 id h5 with h5 | h5
      · exact o1 id h5 h4
      · have := g2.low h4; omega
    have nt : idOf (.slice a' m' c') ≠ some H1.size := fun e => by have := g1.low (.inl e); omega
    have hwt := hwy
    simp only [go_sem, seval, get_set_same, get_set_ne, Nat.add_left_cancel_iff, p1, p4, intss_len h3.intss, hwt]
    refine l1In_c ?_
    by_cases hb : 0 ≤ t ∧ t ≤ yss.length - 1
    rotate_left
    · have hb' : (decide (0 ≤ t) && decide (t ≤ ((yss.length : Nat) : Int) - 1)) = false := by simpa using hb
      rw [if_pos hb] at hR
      simp only [go_sem, seval, get_set_same, get_set_ne, Nat.add_left_cancel_iff, hb', p2, p3, b22]
      exact hfail hR.symm _ (kk2.set (by omega))
    have hb' : (decide (0 ≤ t) && decide (t ≤ ((yss.length : Nat) : Int) - 1)) = true := by simpa using hb
    obtain ⟨t0, rfl⟩ : ∃ t0 : Nat, t = t0 := ⟨t.toNat, by omega⟩
    rw [if_neg (by omega)] at hR
    have htl0 : t0 < yss.length := by omega
    have htl : t0 < yss.length := by first | exact htl0 | (rw [List.length_set]; exact htl0)
    have hrow := h3.rows t0 htl
    have hrl : (nth yss t0 []).length ≤ 1048576 := hs'.2 t0 htl
    simp only [go_sem, seval, get_set_same, get_set_ne, Nat.add_left_cancel_iff, hb', p1, p4, intss_index h3.intss, intss_load h3.intss, htl]
    refine l1Own_c hrow.ints hrl fun w1 G3 kk3 hw1 => ?_
    have zz3 := kk3.size
    have p1 : G3.get (H.size + 1) = .rw 3 [.int .i64 2, .int .i64 b, .int .i64 t0] := by rw [kk3.get _ (by omega), p1]
    have hh3 := h3.keep kk3
    simp only [go_sem, seval, p1]
    refine ⟨draw2_keep kk3, ?_⟩
    refine hd_app (Hd.of (OwnN.of (hw1.keep (AKeep.push _ _)))) (by rw [size_push]; omega) (by rfl) (by rfl) (by omega) (by unfold big; omega) fun w2 G4 hw5 hz4 hf4 hn4 => ?_
    refine ⟨draw2_weak (by kernel_rfl), ?_⟩
    simp only [go_sem, seval, intss_index hh3.intss, htl]
    rw [size_push] at hz4
    refine hss_put h3 htl (xs := nth yss t0 [] ++ [b]) (G' := G4) (by rw [List.length_append, List.map_append]; exact hw5.le (by omega)) (by omega) (fun id hi _ => ?_) (fun id e => .inr ?_) (by simp only [go_sem, seval]) fun G5 h5 hz5 hf5 hi5 => ?_
    · rw [hf4 id (by rw [size_push]; omega) (fun e => by have := hw1.above _ e; omega), get_push_lt _ _ _ (by omega), kk3.get id hi]
    · rcases hn4 id e with h4 | h4
      · have := hw1.above _ h4; omega
      · rw [size_push] at h4; omega
    simp only [go_sem, seval]
    have old : ∀ id, id < G2.size → G4.get id = G2.get id := fun id hi => by
      rw [hf4 id (by rw [size_push]; omega) (fun e => by have := hw1.above _ e; omega), get_push_lt _ _ _ (by omega), kk3.get id hi]
    have old3 : ∀ id, id < G2.size → G4.get id = (G3.push (.rw 1 [.int .i64 b])).get id := fun id hi => by
      rw [hf4 id (by rw [size_push]; omega) (fun e => by have := hw1.above _ e; omega)]
    refine ⟨floatCond_cons (l := []) (by kernel_rfl) floatOne_nil (floatCond_cons (l := [.tmp 148, .tmp 150]) (by kernel_rfl) (floatOne_cons (fun id e => ?_) (floatOne_cons (fun id e => ?_) floatOne_nil)) (by rw [float_keep kk3]; simp only [go_sem, seval])), ?_⟩
    · simp only [go_sem, seval] at e
      obtain rfl : H1.size = id := by cases e; rfl
      exact old3 _ (by omega)
    · simp only [go_sem, seval] at e
      obtain rfl : H.size + 1 = id := by cases e; rfl
      exact old3 _ (by omega)
    have lot : ∀ id, id < H.size + 4 → idOf (.slice a' m' c') ≠ some id := fun id hi e => by have := h3.above (.inl e); omega
    have p4 : G5.get H1.size = .rw 3 [.slice a m c, .int .i64 q, .slice a' m' c'] := by rw [hf5 _ nt, old _ (by omega), p4]
    have p2 : G5.get (H.size + 2) = .rw 3 [.slice none 0 0, .int .i64 0, .slice none 0 0] := by rw [hf5 _ (lot _ (by omega)), old _ (by omega), p2]
    have p3 : G5.get (H.size + 3) = .rw 3 [.slice none 0 0, .int .i64 0, .slice none 0 0] := by rw [hf5 _ (lot _ (by omega)), old _ (by omega), p3]
    have k5 : AKeep H G5 := ⟨by have := kk2.size; omega, fun id hi => by rw [hf5 _ (lot _ (by omega)), old _ (by omega), kk2.get id hi]⟩
    have g5 := h3f.keepF (G' := G5) (by omega) fun id hi => by rw [hf5 id fun e => o3 id (.inl e) hi, old id (h3f.low hi)]
    have o5 : Off (.slice a' m' c') (us'.set t0 w2) (.slice a m c) (vs'.set a0 w) := fun id hi hi' => by
      have := h3f.low hi'
      rcases hi5 id hi with h4 | h4
      · exact o3 id h4 hi'
      · omega
    simp only [go_sem, seval, p4]
    refine l24Good_c g5.intss h5.intss fun G6 k6 => ?_
    have zz6 := k6.size
    have p2 : G6.get (H.size + 2) = .rw 3 [.slice none 0 0, .int .i64 0, .slice none 0 0] := by rw [k6.get _ (by omega), p2]
    have p3 : G6.get (H.size + 3) = .rw 3 [.slice none 0 0, .int .i64 0, .slice none 0 0] := by rw [k6.get _ (by omega), p3]
    have p4 : G6.get H1.size = .rw 3 [.slice a m c, .int .i64 q, .slice a' m' c'] := by rw [k6.get _ (by omega), p4]
    have b6 : H.size + 2 < G6.size := by omega
    have hR : mkFin (xss.set a0 xs1) q (yss.set t0 (nth yss t0 [] ++ [b])) 0 = R := by
      rw [← hR, ← hxs1]; rfl
    by_cases hval : validTerminal (xss.set a0 xs1) q (yss.set t0 (nth yss t0 [] ++ [b])) = true
    · simp only [go_sem, seval, get_set_same, get_set_ne, Nat.add_left_cancel_iff, hval, p4, p2, b6]
      rw [mkFin, if_pos hval] at hR
      subst hR
      refine hk _ _ _ _ _ ((k5.trans k6).set (by omega)) (((g5.keep k6).keepF (by rw [size_set]; omega) fun id hi => get_set_ne _ _ _ _ ?_).le (by omega)) (((h5.keep k6).keepF (by rw [size_set]; omega) fun id hi => get_set_ne _ _ _ _ ?_).le (by omega)) fun id e1 e2 => o5 id e2 e1
      · have := g5.above hi; omega
      · have := h5.above hi; omega
    · have hval : validTerminal (xss.set a0 xs1) q (yss.set t0 (nth yss t0 [] ++ [b])) = false := by simpa using hval
      simp only [go_sem, seval, get_set_same, get_set_ne, Nat.add_left_cancel_iff, hval, p3, p2, b6]
      rw [mkFin, if_neg (by simp [hval])] at hR
      exact hfail hR.symm _ ((k5.trans k6).set (by omega))
  · have c3 : (k == 3) = false := by simpa using hk3
    have c1 : (k == 1) = false := by simpa using hk1
    have c2 : (k == 2) = false := by simpa using hk2
    unfold spP at hR
    rw [if_neg hk3] at hR
    simp only [go_sem, seval, get_set_same, get_set_ne, Nat.add_left_cancel_iff, c3, f0, f1]
    refine l5Find_c hG fun G1 kk1 => ?_
    have zz1 := kk1.size
    have f0 : G1.get H.size = .rw 3 [v, .int .i64 q, u] := by rw [kk1.get _ (by omega), f0]
    have f1 : G1.get (H.size + 1) = .rw 3 [.int .i64 k, .int .i64 b, .int .i64 t] := by rw [kk1.get _ (by omega), f1]
    have f2 : G1.get (H.size + 2) = .rw 3 [.slice none 0 0, .int .i64 0, .slice none 0 0] := by rw [kk1.get _ (by omega), f2]
    have f3 : G1.get (H.size + 3) = .rw 3 [.slice none 0 0, .int .i64 0, .slice none 0 0] := by rw [kk1.get _ (by omega), f3]
    have f4 : G1.get H1.size = .rw 3 [.slice a m c, .int .i64 q, .slice a' m' c'] := by rw [kk1.get _ (by omega), f4]
    have b2 : H.size + 2 < G1.size := by omega
    have h2 := h2.keep kk1
    have g2 := g2.keep kk1
    simp only [go_sem, seval, get_set_same, get_set_ne, Nat.add_left_cancel_iff, f0, f1]
    rcases place_spec (b := b) xss 0 with hp | ⟨a0, c0, hp, hal, hcl, hbb⟩
    · have ha' : decide ((-1 : Int) < 0) = true := rfl
      rw [hp] at hR ⊢
      rw [if_pos (.inl (by omega))] at hR
      simp only [go_sem, seval, get_set_same, get_set_ne, Nat.add_left_cancel_iff, ha', c1, f1, f3, f2, b2]
      exact hfail hR.symm _ ((kG.trans kk1).set (by omega))
    rw [Nat.zero_add] at hp
    rw [hp] at hR ⊢
    have ha' : decide ((a0 : Int) < 0) = false := by simp
    have hrr := (hG.keep kk1).2.2 a0 hal
    have hlen := hs.2 a0 hal
    have hw2 : IntKind.i64.wrap (((nth xss a0 []).length : Int) - 1) = (((nth xss a0 []).length - 1 : Nat) : Int) := by
      rw [wrap_id (by omega) (by omega)]; omega
    simp only [go_sem, seval, get_set_same, get_set_ne, Nat.add_left_cancel_iff, ha', f0, intss_index (hG.keep kk1), intss_load (hG.keep kk1), hal, ints_len hrr, hw2]
    have et : ((a0 : Int)).toNat = a0 := by omega
    dsimp only at hR
    rw [et] at hR
    by_cases hc0 : c0 = (nth xss a0 []).length - 1
    rotate_left
    · have hc0' : ((c0 : Int) != (((nth xss a0 []).length - 1 : Nat) : Int)) = true := by simp; omega
      rw [if_pos (.inr (.inl (by omega)))] at hR
      simp only [go_sem, seval, get_set_same, get_set_ne, Nat.add_left_cancel_iff, hc0', c1, f1, f3, f2, b2]
      exact hfail hR.symm _ ((kG.trans kk1).set (by omega))
    have hc0' : ((c0 : Int) != (((nth xss a0 []).length - 1 : Nat) : Int)) = false := by simp; omega
    rw [if_neg (by omega)] at hR
    try simp only [go_sem, seval, get_set_same, get_set_ne, Nat.add_left_cancel_iff, hc0', c1, f4, f1]
    have hr := h2.rows a0 hal
    simp only [go_sem, seval, get_set_same, get_set_ne, Nat.add_left_cancel_iff, intss_index h2.intss, intss_load h2.intss, hal]
    refine hd_cut hr (by simp only [go_sem, seval]) (by omega) fun w hw3 hw4 => ?_
    simp only [go_sem, seval, intss_index h2.intss, hal]
    obtain ⟨xs1, hxs1⟩ : ∃ xs1, (nth xss a0 []).take ((nth xss a0 []).length - 1) = xs1 := ⟨_, rfl⟩
    have hl1 : xs1.length = (nth xss a0 []).length - 1 := by rw [← hxs1, List.length_take]; omega
    rw [Nat.mul_one, ← List.map_take, hc0, hxs1, ← hl1] at hw3
    refine hss_put h2 hal hw3 (Nat.le_refl _) (fun _ _ _ => rfl) (fun id e => .inl (by rw [← hw4]; exact e)) (by simp only [go_sem, seval]) fun G2 h3f hz2 hf2 hi2 => ?_
    have lof : ∀ id, id < H.size + 4 → idOf (.slice a m c) ≠ some id := fun id hi e => by have := h2.above (.inl e); omega
    have nof : idOf (.slice a m c) ≠ some H1.size := fun e => by have := h1.low (.inl e); omega
    have p1 : G2.get (H.size + 1) = .rw 3 [.int .i64 k, .int .i64 b, .int .i64 t] := by rw [hf2 _ (lof _ (by omega)), f1]
    have p2 : G2.get (H.size + 2) = .rw 3 [.slice none 0 0, .int .i64 0, .slice none 0 0] := by rw [hf2 _ (lof _ (by omega)), f2]
    have p3 : G2.get (H.size + 3) = .rw 3 [.slice none 0 0, .int .i64 0, .slice none 0 0] := by rw [hf2 _ (lof _ (by omega)), f3]
    have p4 : G2.get H1.size = .rw 3 [.slice a m c, .int .i64 q, .slice a' m' c'] := by rw [hf2 _ nof, f4]
    have b22 : H.size + 2 < G2.size := by omega
    have kk2 : AKeep H G2 := ⟨by have := kG.size; omega, fun id hi => by rw [hf2 id (lof id (by omega)), kk1.get id (by have := kG.size; omega), kG.get id hi]⟩
    rw [if_neg hk1, if_neg hk2] at hR
    simp only [go_sem, seval, get_set_same, get_set_ne, Nat.add_left_cancel_iff, p1, p2, p3, c1, c2, c3, b22]
    exact hfail hR.symm _ (kk2.set (by omega))
end Go.Ah.A


namespace Go.Ah.A
open Go Go.Ah Go.Proofs
theorem rowOk_some {seen : List Int} : ∀ {xs r : List Int}, rowOk seen xs = some r → r = seen ++ xs ∧ (seen.Nodup → r.Nodup) := by
  intro xs
  induction xs generalizing seen with
  | nil => intro r h; simp [rowOk] at h; subst h; simp
  | cons x xs ih =>
    intro r h
    unfold rowOk at h
    split at h
    · rename_i hx
      obtain ⟨h1, h2⟩ := ih h
      refine ⟨by rw [h1]; simp, fun hn => h2 ?_⟩
      rw [List.nodup_append]
      exact ⟨hn, by simp, fun a ha b hb e => by simp at hb; subst hb; subst e; exact hx.2.2 ha⟩
    · cases h
theorem rowsOk_some {m : Int} : ∀ {xss : List (List Int)} {seen r : List Int}, rowsOk m seen xss = some r → r = seen ++ xss.flatten ∧ (seen.Nodup → r.Nodup) := by
  intro xss
  induction xss with
  | nil => intro seen r h; simp [rowsOk] at h; subst h; simp
  | cons x xss ih =>
    intro seen r h
    unfold rowsOk at h
    split at h
    · cases h2 : rowOk seen x with
      | none => rw [h2] at h; cases h
      | some s2 =>
        rw [h2] at h
        obtain ⟨h3, h4⟩ := rowOk_some h2
        obtain ⟨h5, h6⟩ := ih h
        exact ⟨by rw [h5, h3]; simp, fun hn => h6 (h4 hn)⟩
    · cases h
theorem rowsOk_nodup {m : Int} {xss : List (List Int)} (h : (rowsOk m [] xss).isSome = true) : xss.flatten.Nodup := by
  obtain ⟨r, hr⟩ := Option.isSome_iff_exists.1 h
  obtain ⟨h1, h2⟩ := rowsOk_some hr
  rw [List.nil_append] at h1
  rw [← h1]; exact h2 List.nodup_nil
theorem nth_mem {α : Type} {xs : List α} {i : Nat} {d : α} (h : i < xs.length) : nth xs i d ∈ xs := by
  simp only [nth, List.getD_eq_getElem?_getD, List.getElem?_eq_getElem h, Option.getD_some]
  exact List.getElem_mem h
theorem nth_cons_zero {α : Type} {xs : List α} {x d : α} : nth (x :: xs) 0 d = x := rfl
theorem nth_cons_succ {α : Type} {xs : List α} {x d : α} {i : Nat} : nth (x :: xs) (i + 1) d = nth xs i d := rfl
theorem nth_inj {xs : List Int} (h : xs.Nodup) {i j : Nat} (hi : i < xs.length) (hj : j < xs.length) (e : nth xs i 0 = nth xs j 0) : i = j := by
  simp only [nth, List.getD_eq_getElem?_getD, List.getElem?_eq_getElem hi, List.getElem?_eq_getElem hj, Option.getD_some] at e
  have hp := List.pairwise_iff_getElem.1 h
  rcases Nat.lt_trichotomy i j with h1 | h1 | h1
  · exact absurd e (hp i j hi hj h1)
  · exact h1
  · exact absurd e.symm (hp j i hj hi h1)
theorem flat_inj : ∀ {xss : List (List Int)}, xss.flatten.Nodup → ∀ {i j c d : Nat}, i < xss.length → j < xss.length → c < (nth xss i []).length → d < (nth xss j []).length → nth (nth xss i []) c 0 = nth (nth xss j []) d 0 → i = j ∧ c = d
  | [], _, i, _, _, _, hi, _, _, _, _ => by simp at hi
  | x :: r, h, i, j, c, d, hi, hj, hc, hd, e => by
    rw [List.flatten_cons, List.nodup_append] at h
    obtain ⟨h1, h2, h3⟩ := h
    have inr : ∀ k b, k < r.length → b < (nth r k []).length → nth (nth r k []) b 0 ∈ r.flatten := fun k b hk hb => List.mem_flatten.2 ⟨_, nth_mem hk, nth_mem hb⟩
    cases i with
    | zero =>
      cases j with
      | zero => exact ⟨rfl, nth_inj h1 hc hd e⟩
      | succ j =>
        rw [nth_cons_zero] at e hc; rw [nth_cons_succ] at e hd
        exact absurd e (h3 _ (nth_mem hc) _ (inr _ _ (by simpa using hj) hd))
    | succ i =>
      cases j with
      | zero =>
        rw [nth_cons_zero] at e hd; rw [nth_cons_succ] at e hc
        exact absurd e.symm (h3 _ (nth_mem hd) _ (inr _ _ (by simpa using hi) hc))
      | succ j =>
        rw [nth_cons_succ] at e hc; rw [nth_cons_succ] at e hd
        have := flat_inj h2 (by simpa using hi) (by simpa using hj) hc hd e
        exact ⟨by omega, this.2⟩
theorem idx_none {b : Int} : ∀ {xs : List Int} {i : Nat}, idx b xs i < 0 → b ∉ xs
  | [], _, _ => by simp
  | x :: r, i, h => by
    unfold idx at h
    split at h
    · omega
    · rename_i h2
      have := idx_none h
      simp [h2, this]
theorem place_none {b : Int} : ∀ {xss : List (List Int)} {i : Nat}, (place b xss i).1 < 0 → ∀ s ∈ xss, b ∉ s
  | [], _, _ => by simp
  | x :: r, i, h => by
    unfold place at h
    split at h
    · simp at h; omega
    · rename_i h2
      have := place_none h
      intro s hs
      rcases List.mem_cons.1 hs with rfl | hs
      · exact idx_none (i := 0) (by omega)
      · exact this s hs
theorem tops_none {b : Int} : ∀ {xss : List (List Int)} {i : Nat}, tops b xss i < 0 → ∀ s ∈ xss, onTop b s = false
  | [], _, _ => by simp
  | x :: r, i, h => by
    unfold tops at h
    split at h
    · omega
    · rename_i h2
      have := tops_none h
      intro s hs
      rcases List.mem_cons.1 hs with rfl | hs
      · simpa using h2
      · exact this s hs
theorem onTop_iff {b : Int} {s : List Int} : onTop b s = true ↔ 0 < s.length ∧ nth s (s.length - 1) 0 = b := by
  unfold onTop topD
  simp only [Bool.and_eq_true, decide_eq_true_eq, beq_iff_eq]
  constructor
  · rintro ⟨h1, h2⟩; rw [if_neg (by omega)] at h2; exact ⟨h1, h2⟩
  · rintro ⟨h1, h2⟩; exact ⟨h1, by rw [if_neg (by omega)]; exact h2⟩
/-- In rows without a number twice: the top is found where the number stands. -/
theorem tops_place {b : Int} {xss : List (List Int)} (h : xss.flatten.Nodup) :
    (((place b xss 0).1 < 0 ∨ (place b xss 0).2 ≠ (nth xss (place b xss 0).1.toNat []).length - 1) ∧ tops b xss 0 < 0) ∨ (¬ ((place b xss 0).1 < 0 ∨ (place b xss 0).2 ≠ (nth xss (place b xss 0).1.toNat []).length - 1) ∧ tops b xss 0 = (place b xss 0).1) := by
  rcases place_spec (b := b) xss 0 with hp | ⟨a, c, hp, ha, hc, hb⟩
  · left
    refine ⟨.inl (by rw [hp]; decide), ?_⟩
    rcases tops_spec (b := b) xss 0 with h1 | ⟨a, h1, h2, h3⟩
    · exact h1
    · obtain ⟨h4, h5⟩ := onTop_iff.1 h3
      exact absurd (h5 ▸ nth_mem (by omega)) (place_none (b := b) (i := 0) (by rw [hp]; decide) _ (nth_mem h2))
  · rw [Nat.zero_add] at hp
    have e : (place b xss 0).1 = a := by rw [hp]
    have e2 : (place b xss 0).2 = c := by rw [hp]
    rw [e, e2, show ((a : Int)).toNat = a by omega]
    by_cases hl : c = (nth xss a []).length - 1
    · right
      refine ⟨by omega, ?_⟩
      have htop : onTop b (nth xss a []) = true := onTop_iff.2 ⟨by omega, by rw [← hl]; exact hb⟩
      rcases tops_spec (b := b) xss 0 with h1 | ⟨a', h1, h2, h3⟩
      · rw [tops_none h1 _ (nth_mem ha)] at htop; cases htop
      · obtain ⟨h4, h5⟩ := onTop_iff.1 h3
        have := flat_inj h ha h2 hc (by omega : (nth xss a' []).length - 1 < _) (by rw [hb, h5])
        rw [h1]; omega
    · left
      refine ⟨.inr (by omega), ?_⟩
      rcases tops_spec (b := b) xss 0 with h1 | ⟨a', h1, h2, h3⟩
      · exact h1
      · obtain ⟨h4, h5⟩ := onTop_iff.1 h3
        have := flat_inj h ha h2 hc (by omega : (nth xss a' []).length - 1 < _) (by rw [hb, h5])
        obtain ⟨rfl, h6⟩ := this
        exact absurd h6 hl
/-- The same, but for the place from which it moved. -/
def MK.flat (x : MK) : MK := ⟨x.y, x.q, x.s, 0, x.ok⟩
theorem flat_fin {y : List (List Int)} {q : Int} {s : List (List Int)} {a : Int} : (mkFin y q s a).flat = mkFin y q s 0 := by
  unfold mkFin; split <;> rfl
theorem valid_yard {y : List (List Int)} {q : Int} {s : List (List Int)} (h : validTerminal y q s = true) : y.flatten.Nodup := by
  unfold validTerminal validYard at h
  simp only [Bool.and_eq_true] at h
  exact rowsOk_nodup h.1.2
theorem valid_bay {y : List (List Int)} {q : Int} {s : List (List Int)} (h : validTerminal y q s = true) : s.flatten.Nodup := by
  unfold validTerminal validBay at h
  simp only [Bool.and_eq_true] at h
  exact rowsOk_nodup h.2.1.2.2
theorem sp_mk {y : List (List Int)} {q : Int} {s : List (List Int)} {k b t : Int} (h : validTerminal y q s = true) : spP y q s k b t = (mkP y q s k b t).flat := by
  by_cases h3 : k = 3
  · subst h3
    have em : mkP y q s 3 b t = (if tops b s 0 < 0 ∨ ¬ (0 ≤ t ∧ t ≤ y.length - 1) then MK.no else mkFin (putAt y t.toNat b) q (cutAt s (tops b s 0).toNat) (tops b s 0)) := by
      unfold mkP; rw [if_neg (by omega), if_neg (by omega), if_pos rfl]
    unfold spP
    rw [em, if_pos rfl]
    rcases tops_place (b := b) (valid_bay h) with ⟨h1, h2⟩ | ⟨h1, h2⟩
    · rw [if_pos h1, if_pos (.inl h2)]; rfl
    · rw [if_neg h1]
      by_cases h4 : 0 ≤ t ∧ t ≤ (y.length : Int) - 1
      · rw [if_neg (by omega), if_neg (by rw [h2]; omega), h2, flat_fin]
      · rw [if_pos h4, if_pos (.inr h4)]; rfl
  · unfold spP mkP
    rw [if_neg h3]
    rcases tops_place (b := b) (valid_yard h) with ⟨h1, h2⟩ | ⟨h1, h2⟩
    · rw [if_pos (h1.elim .inl fun h => .inr (.inl h))]
      by_cases k1 : k = 1
      · rw [if_pos k1, if_pos (.inl h2)]; rfl
      · rw [if_neg k1]
        by_cases k2 : k = 2
        · rw [if_pos k2, if_pos (.inl h2)]; rfl
        · rw [if_neg k2, if_neg h3]; rfl
    · by_cases k1 : k = 1
      · rw [if_pos k1, if_pos k1]
        by_cases h5 : t = (place b y 0).1
        · rw [if_pos (.inr (.inr ⟨k1, h5⟩)), if_pos (.inr (.inr (by rw [h2]; exact h5)))]; rfl
        · rw [if_neg (by omega)]
          by_cases h4 : 0 ≤ t ∧ t ≤ (y.length : Int) - 1
          · rw [if_neg (by omega), if_neg (by rw [h2]; omega), h2, flat_fin]
          · rw [if_pos h4, if_pos (.inr (.inl h4))]; rfl
      · rw [if_neg (by omega), if_neg k1, if_neg k1]
        by_cases k2 : k = 2
        · rw [if_pos k2, if_pos k2]
          by_cases h4 : 0 ≤ t ∧ t ≤ (s.length : Int) - 1
          · rw [if_neg (by omega), if_neg (by rw [h2]; omega), h2, flat_fin]
          · rw [if_pos h4, if_pos (.inr h4)]; rfl
        · rw [if_neg k2, if_neg k2, if_neg h3]; rfl
end Go.Ah.A


namespace Go.Ah.A
open Go Go.Ah Go.Proofs
set_option linter.unusedSimpArgs false
variable {H : AHeap} {Kk : Value → AHeap → Prop}
/-- What MakeOrder gives. -/
def moveP (y : List (List Int)) (q : Int) (s : List (List Int)) (k b t : Int) : MK := if validTerminal y q s = true then (mkP y q s k b t).flat else MK.no
set_option maxRecDepth 8000 in
theorem spMakeOrder_c {v u : Value} {vs us : List Value} {xss yss : List (List Int)} {q k b t : Int} (h : IntsS H v vs xss) (g : IntsS H u us yss) (hs : Small xss) (hs' : Small yss)
    (hk : ∀ v' vs' u' us' H', AKeep H H' → HSS H.size H' v' vs' (moveP xss q yss k b t).y → HSS H.size H' u' us' (moveP xss q yss k b t).s → Off v' vs' u' us' → Kk (.tuple #[.agg #[v', .int .i64 (moveP xss q yss k b t).q, u'], .bool (moveP xss q yss k b t).ok]) H') : callA Try.prog 15 #[.agg #[v, .int .i64 q, u], .agg #[.int .i64 k, .int .i64 b, .int .i64 t]] H Kk := by
  refine call_go (fn := Try.f15) (rs := [.cell 4 38, .tmp 5]) [] (by kernel_rfl) rfl rfl follows (by kernel_rfl) ?_
  simp only [go_sem, seval, push_p, pushes_p, size_p, get_p, get_p0, set_p, set_p0]
  have k0 : AKeep H (pushes H [.rw 3 [v, .int .i64 q, u], .rw 3 [.int .i64 k, .int .i64 b, .int .i64 t], .rw 3 [.slice none 0 0, .int .i64 0, .slice none 0 0]]) := keep_p
  refine l24Good_c (h.keep k0) (g.keep k0) fun H1 k1 => ?_
  have hz1 := k1.size
  simp only [size_p, List.length_cons, List.length_nil] at hz1
  have e0 : H1.get H.size = .rw 3 [v, .int .i64 q, u] := by rw [k1.get _ (by rw [size_p]; simp), get_p0]; rfl
  have e1 : H1.get (H.size + 1) = .rw 3 [.int .i64 k, .int .i64 b, .int .i64 t] := by rw [k1.get _ (by rw [size_p]; simp), get_p]; rfl
  have e2 : H1.get (H.size + 2) = .rw 3 [.slice none 0 0, .int .i64 0, .slice none 0 0] := by rw [k1.get _ (by rw [size_p]; simp), get_p]; rfl
  have b2 : H.size + 2 < H1.size := by omega
  have kH := k0.trans k1
  unfold moveP at hk
  by_cases hv : validTerminal xss q yss = true
  rotate_left
  · rw [if_neg hv] at hk
    have hv : validTerminal xss q yss = false := by simpa using hv
    simp only [go_sem, seval, get_set_same, get_set_ne, Nat.add_left_cancel_iff, hv, e2, b2]
    exact hk _ [] _ [] _ (kH.set (by omega)) hss_nil hss_nil fun id hi => absurd hi inF_nil
  rw [if_pos hv, ← sp_mk hv] at hk
  simp only [go_sem, seval, get_set_same, get_set_ne, Nat.add_left_cancel_iff, hv, e0, e1]
  refine l24Make_c (h.keep kH) (g.keep kH) hs hs' fun v' vs' u' us' H2 k2 h2 g2 o2 => ?_
  have hz2 := k2.size
  have e2 : H2.get (H.size + 2) = .rw 3 [.slice none 0 0, .int .i64 0, .slice none 0 0] := by rw [k2.get _ (by omega), e2]
  have b2 : H.size + 2 < H2.size := by omega
  obtain ⟨a, m, c, rfl⟩ := h2.top.slice
  obtain ⟨a', m', c', rfl⟩ := g2.top.slice
  simp only [go_sem, seval, get_set_same, get_set_ne, Nat.add_left_cancel_iff, e2, b2]
  exact hk _ _ _ _ _ ((kH.trans k2).set (by omega)) ((h2.setL (by omega)).le (by omega)) ((g2.setL (by omega)).le (by omega)) o2
set_option maxRecDepth 8000 in
theorem imMakeOrder_c {v u : Value} {vs us : List Value} {xss yss : List (List Int)} {q k b t : Int} (h : IntsS H v vs xss) (g : IntsS H u us yss) (hs : Small xss) (hs' : Small yss)
    (hk : ∀ v' vs' u' us' H', AKeep H H' → HSS H.size H' v' vs' (moveP xss q yss k b t).y → HSS H.size H' u' us' (moveP xss q yss k b t).s → Off v' vs' u' us' → Kk (.tuple #[.agg #[v', .int .i64 (moveP xss q yss k b t).q, u'], .bool (moveP xss q yss k b t).ok]) H') : callA Try.prog 16 #[.agg #[v, .int .i64 q, u], .agg #[.int .i64 k, .int .i64 b, .int .i64 t]] H Kk := by
  refine call_go (fn := Try.f16) (rs := [.cell 4 38, .tmp 5]) [] (by kernel_rfl) rfl rfl follows (by kernel_rfl) ?_
  simp only [go_sem, seval, push_p, pushes_p, size_p, get_p, get_p0, set_p, set_p0]
  have k0 : AKeep H (pushes H [.rw 3 [v, .int .i64 q, u], .rw 3 [.int .i64 k, .int .i64 b, .int .i64 t], .rw 3 [.slice none 0 0, .int .i64 0, .slice none 0 0]]) := keep_p
  refine validTerminal_c (h.keep k0) (g.keep k0) fun H1 k1 => ?_
  have hz1 := k1.size
  simp only [size_p, List.length_cons, List.length_nil] at hz1
  have e0 : H1.get H.size = .rw 3 [v, .int .i64 q, u] := by rw [k1.get _ (by rw [size_p]; simp), get_p0]; rfl
  have e1 : H1.get (H.size + 1) = .rw 3 [.int .i64 k, .int .i64 b, .int .i64 t] := by rw [k1.get _ (by rw [size_p]; simp), get_p]; rfl
  have e2 : H1.get (H.size + 2) = .rw 3 [.slice none 0 0, .int .i64 0, .slice none 0 0] := by rw [k1.get _ (by rw [size_p]; simp), get_p]; rfl
  have b2 : H.size + 2 < H1.size := by omega
  have kH := k0.trans k1
  unfold moveP at hk
  by_cases hv : validTerminal xss q yss = true
  rotate_left
  · rw [if_neg hv] at hk
    have hv : validTerminal xss q yss = false := by simpa using hv
    simp only [go_sem, seval, get_set_same, get_set_ne, Nat.add_left_cancel_iff, hv, e2, b2]
    exact hk _ [] _ [] _ (kH.set (by omega)) hss_nil hss_nil fun id hi => absurd hi inF_nil
  rw [if_pos hv] at hk
  simp only [go_sem, seval, get_set_same, get_set_ne, Nat.add_left_cancel_iff, hv, e0, e1]
  refine makeOrder_c (h.keep kH) (g.keep kH) hs hs' fun v' vs' u' us' H2 k2 h2 g2 o2 => ?_
  have hz2 := k2.size
  have e2 : H2.get (H.size + 2) = .rw 3 [.slice none 0 0, .int .i64 0, .slice none 0 0] := by rw [k2.get _ (by omega), e2]
  have b2 : H.size + 2 < H2.size + 1 := by omega
  have n2 : H.size + 2 ≠ H2.size := by omega
  obtain ⟨a, m, c, rfl⟩ := h2.top.slice
  obtain ⟨a', m', c', rfl⟩ := g2.top.slice
  simp only [go_sem, seval, get_set_same, get_set_ne, Nat.add_left_cancel_iff, push_set, get_push_ne _ _ _ n2, e2, b2]
  exact hk _ _ _ _ _ (((kH.trans k2).trans (AKeep.push _ _)).set (by omega)) (((h2.keep (AKeep.push _ _)).setL (by omega)).le (by omega)) (((g2.keep (AKeep.push _ _)).setL (by omega)).le (by omega)) o2
end Go.Ah.A


namespace Go.Ah.A
open Go Go.Ah Go.Proofs
set_option linter.unusedSimpArgs false
variable {H : AHeap} {Kk : Value → AHeap → Prop}
/-- What InverseOrder gives: kind, place, done. -/
def invK (k : Int) : Int := if k = 1 then 1 else if k = 2 then 3 else 2
structure IV where
  k : Int
  b : Int
  t : Int
  ok : Bool
def invP (y : List (List Int)) (q : Int) (s : List (List Int)) (k b t : Int) : IV :=
  if validTerminal y q s = true ∧ (mkP y q s k b t).ok = true then ⟨invK k, b, (mkP y q s k b t).a, true⟩ else ⟨0, 0, 0, false⟩
theorem fin_ok {y : List (List Int)} {q : Int} {s : List (List Int)} {a : Int} (h : (mkFin y q s a).ok = true) : mkFin y q s a = ⟨y, q, s, a, true⟩ ∧ validTerminal y q s = true := by
  unfold mkFin at h ⊢
  split
  · rename_i hv; exact ⟨rfl, hv⟩
  · rename_i hv; rw [if_neg hv] at h; cases h
theorem mk_ok {y : List (List Int)} {q : Int} {s : List (List Int)} {k b t : Int} (h : (mkP y q s k b t).ok = true) : (k = 1 ∧ (mkP y q s k b t).a = tops b y 0 ∧ 0 ≤ tops b y 0) ∨ (k = 2 ∧ (mkP y q s k b t).a = tops b y 0 ∧ 0 ≤ tops b y 0) ∨ (k = 3 ∧ (mkP y q s k b t).a = tops b s 0 ∧ 0 ≤ tops b s 0) := by
  unfold mkP at h ⊢
  by_cases h1 : k = 1
  · rw [if_pos h1] at h ⊢
    split at h
    · cases h
    · rename_i hc
      rw [if_neg hc, (fin_ok h).1]
      exact .inl ⟨h1, rfl, by omega⟩
  rw [if_neg h1] at h ⊢
  by_cases h2 : k = 2
  · rw [if_pos h2] at h ⊢
    split at h
    · cases h
    · rename_i hc
      rw [if_neg hc, (fin_ok h).1]
      exact .inr (.inl ⟨h2, rfl, by omega⟩)
  rw [if_neg h2] at h ⊢
  by_cases h3 : k = 3
  · rw [if_pos h3] at h ⊢
    split at h
    · cases h
    · rename_i hc
      rw [if_neg hc, (fin_ok h).1]
      exact .inr (.inr ⟨h3, rfl, by omega⟩)
  · rw [if_neg h3] at h; cases h
theorem place_tops {b : Int} {xss : List (List Int)} (h : xss.flatten.Nodup) (h2 : 0 ≤ tops b xss 0) : (place b xss 0).1 = tops b xss 0 := by
  rcases tops_place (b := b) h with ⟨_, h1⟩ | ⟨_, h1⟩
  · omega
  · exact h1.symm
theorem move_ok {y : List (List Int)} {q : Int} {s : List (List Int)} {k b t : Int} : (moveP y q s k b t).ok = true ↔ validTerminal y q s = true ∧ (mkP y q s k b t).ok = true := by
  unfold moveP
  constructor
  · intro h
    split at h
    · rename_i hv; exact ⟨hv, h⟩
    · cases h
  · rintro ⟨h1, h2⟩; rw [if_pos h1]; exact h2
set_option maxRecDepth 8000 in
theorem imInverse_c {v u : Value} {vs us : List Value} {xss yss : List (List Int)} {q k b t : Int} (h : IntsS H v vs xss) (g : IntsS H u us yss) (hs : Small xss) (hs' : Small yss)
    (hk : ∀ H', AKeep H H' → Kk (.tuple #[.agg #[.int .i64 (invP xss q yss k b t).k, .int .i64 (invP xss q yss k b t).b, .int .i64 (invP xss q yss k b t).t], .bool (invP xss q yss k b t).ok]) H') : callA Try.prog 12 #[.agg #[v, .int .i64 q, u], .agg #[.int .i64 k, .int .i64 b, .int .i64 t]] H Kk := by
  refine call_go (fn := Try.f12) (rs := [.cell 4 32, .tmp 5]) [] (by kernel_rfl) rfl rfl follows (by kernel_rfl) ?_
  simp only [go_sem, seval, push_p, pushes_p, size_p, get_p, get_p0, set_p, set_p0]
  have k0 : AKeep H (pushes H [.rw 3 [v, .int .i64 q, u], .rw 3 [.int .i64 k, .int .i64 b, .int .i64 t], .rw 3 [.int .i64 0, .int .i64 0, .int .i64 0]]) := keep_p
  refine validTerminal_c (h.keep k0) (g.keep k0) fun H1 k1 => ?_
  have hz1 := k1.size
  simp only [size_p, List.length_cons, List.length_nil] at hz1
  have e0 : H1.get H.size = .rw 3 [v, .int .i64 q, u] := by rw [k1.get _ (by rw [size_p]; simp), get_p0]; rfl
  have e1 : H1.get (H.size + 1) = .rw 3 [.int .i64 k, .int .i64 b, .int .i64 t] := by rw [k1.get _ (by rw [size_p]; simp), get_p]; rfl
  have e2 : H1.get (H.size + 2) = .rw 3 [.int .i64 0, .int .i64 0, .int .i64 0] := by rw [k1.get _ (by rw [size_p]; simp), get_p]; rfl
  have b2 : H.size + 2 < H1.size := by omega
  have kH := k0.trans k1
  unfold invP at hk
  by_cases hv : validTerminal xss q yss = true
  rotate_left
  · rw [if_neg (fun e => hv e.1)] at hk
    have hv : validTerminal xss q yss = false := by simpa using hv
    simp only [go_sem, seval, get_set_same, get_set_ne, Nat.add_left_cancel_iff, hv, e2, b2]
    exact hk _ (kH.set (by omega))
  simp only [go_sem, seval, get_set_same, get_set_ne, Nat.add_left_cancel_iff, hv, e0, e1]
  refine makeOrder_c (h.keep kH) (g.keep kH) hs hs' fun v' vs' u' us' H2 k2 h2 g2 o2 => ?_
  have hz2 := k2.size
  have e1 : H2.get (H.size + 1) = .rw 3 [.int .i64 k, .int .i64 b, .int .i64 t] := by rw [k2.get _ (by omega), e1]
  have e2 : H2.get (H.size + 2) = .rw 3 [.int .i64 0, .int .i64 0, .int .i64 0] := by rw [k2.get _ (by omega), e2]
  have b2 : H.size + 2 < H2.size + 1 := by omega
  have n2 : H.size + 2 ≠ H2.size := by omega
  obtain ⟨a, m, c, rfl⟩ := h2.top.slice
  obtain ⟨a', m', c', rfl⟩ := g2.top.slice
  simp only [go_sem, seval, get_set_same, get_set_ne, Nat.add_left_cancel_iff, push_set, get_push_ne _ _ _ n2, e2, b2]
  have kH2 := kH.trans k2
  by_cases hok : (mkP xss q yss k b t).ok = true
  rotate_left
  · rw [if_neg (fun e => hok e.2)] at hk
    have hok : (mkP xss q yss k b t).ok = false := by simpa using hok
    simp only [go_sem, seval, get_set_same, get_set_ne, Nat.add_left_cancel_iff, hok, push_set, get_push_ne _ _ _ n2, e2, b2]
    exact hk _ ((kH2.trans (AKeep.push _ _)).set (by omega))
  rw [if_pos ⟨hv, hok⟩] at hk
  have pp : ∀ A B : AObj, ∀ id, id < H2.size → ((H2.push A).push B).get id = H2.get id := fun A B id hi => by rw [get_push_lt _ _ _ (by rw [size_push]; omega), get_push_lt _ _ _ hi]
  have pp1 : ∀ A B : AObj, ((H2.push A).push B).get (H.size + 1) = .rw 3 [.int .i64 k, .int .i64 b, .int .i64 t] := fun A B => by rw [pp _ _ _ (by omega), e1]
  have pp2 : ∀ A B : AObj, ((H2.push A).push B).get (H.size + 2) = .rw 3 [.int .i64 0, .int .i64 0, .int .i64 0] := fun A B => by rw [pp _ _ _ (by omega), e2]
  have b2' : H.size + 2 < H2.size + 1 + 1 := by omega
  have kE : ∀ A B : AObj, AKeep H ((H2.push A).push B) := fun A B => (kH2.trans (AKeep.push _ _)).trans (AKeep.push _ _)
  rcases mk_ok hok with ⟨rfl, ha, h0⟩ | ⟨rfl, ha, h0⟩ | ⟨rfl, ha, h0⟩
  · have i1 : ((1 : Int)).toNat = 1 := rfl
    simp only [go_sem, seval, get_set_same, get_set_ne, Nat.add_left_cancel_iff, hok, push_set, pp1, pp2, b2', i1]
    exact hk _ ((kE _ _).set (by omega))
  · have i1 : ((2 : Int)).toNat = 2 := rfl
    simp only [go_sem, seval, get_set_same, get_set_ne, Nat.add_left_cancel_iff, hok, push_set, pp1, pp2, b2', i1]
    exact hk _ ((kE _ _).set (by omega))
  · have i1 : ((3 : Int)).toNat = 3 := rfl
    simp only [go_sem, seval, get_set_same, get_set_ne, Nat.add_left_cancel_iff, hok, push_set, pp1, pp2, b2', i1]
    exact hk _ ((kE _ _).set (by omega))
set_option maxRecDepth 8000 in
theorem spInverse_c {v u : Value} {vs us : List Value} {xss yss : List (List Int)} {q k b t : Int} (h : IntsS H v vs xss) (g : IntsS H u us yss) (hs : Small xss) (hs' : Small yss)
    (hk : ∀ H', AKeep H H' → Kk (.tuple #[.agg #[.int .i64 (invP xss q yss k b t).k, .int .i64 (invP xss q yss k b t).b, .int .i64 (invP xss q yss k b t).t], .bool (invP xss q yss k b t).ok]) H') : callA Try.prog 9 #[.agg #[v, .int .i64 q, u], .agg #[.int .i64 k, .int .i64 b, .int .i64 t]] H Kk := by
  refine call_go (fn := Try.f9) (rs := [.cell 4 32, .tmp 5]) [] (by kernel_rfl) rfl rfl follows (by kernel_rfl) ?_
  simp only [go_sem, seval, push_p, pushes_p, size_p, get_p, get_p0, set_p, set_p0]
  have k0 : AKeep H (pushes H [.rw 3 [v, .int .i64 q, u], .rw 3 [.int .i64 k, .int .i64 b, .int .i64 t], .rw 3 [.int .i64 0, .int .i64 0, .int .i64 0]]) := keep_p
  refine spMakeOrder_c (h.keep k0) (g.keep k0) hs hs' fun v' vs' u' us' H1 k1 h2 g2 o2 => ?_
  have hz1 := k1.size
  simp only [size_p, List.length_cons, List.length_nil] at hz1
  obtain ⟨a, m, c, rfl⟩ := h2.top.slice
  obtain ⟨a', m', c', rfl⟩ := g2.top.slice
  have e0 : ∀ A, (H1.push A).get H.size = .rw 3 [v, .int .i64 q, u] := fun A => by rw [get_push_lt _ _ _ (by omega), k1.get _ (by rw [size_p]; simp), get_p0]; rfl
  have e1 : ∀ A, (H1.push A).get (H.size + 1) = .rw 3 [.int .i64 k, .int .i64 b, .int .i64 t] := fun A => by rw [get_push_lt _ _ _ (by omega), k1.get _ (by rw [size_p]; simp), get_p]; rfl
  have e2 : ∀ A, (H1.push A).get (H.size + 2) = .rw 3 [.int .i64 0, .int .i64 0, .int .i64 0] := fun A => by rw [get_push_lt _ _ _ (by omega), k1.get _ (by rw [size_p]; simp), get_p]; rfl
  have b2 : H.size + 2 < H1.size + 1 := by omega
  have kH : ∀ A, AKeep H (H1.push A) := fun A => (k0.trans k1).trans (AKeep.push _ _)
  unfold invP at hk
  simp only [go_sem, seval, get_set_same, get_set_ne, Nat.add_left_cancel_iff, push_set]
  by_cases hv : (moveP xss q yss k b t).ok = true
  rotate_left
  · rw [if_neg (fun e => hv (move_ok.2 e))] at hk
    have hv : (moveP xss q yss k b t).ok = false := by simpa using hv
    simp only [go_sem, seval, get_set_same, get_set_ne, Nat.add_left_cancel_iff, hv, e2, b2]
    exact hk _ ((kH _).set (by omega))
  have hvv := move_ok.1 hv
  rw [if_pos hvv] at hk
  simp only [go_sem, seval, get_set_same, get_set_ne, Nat.add_left_cancel_iff, hv, e0, e1]
  refine l5Find_c (h.keep (kH _)) fun H2 k2 => ?_
  have hz2 := k2.size
  rw [size_push] at hz2
  have e0 : H2.get H.size = .rw 3 [v, .int .i64 q, u] := by rw [k2.get _ (by rw [size_push]; omega), e0]
  have e1 : H2.get (H.size + 1) = .rw 3 [.int .i64 k, .int .i64 b, .int .i64 t] := by rw [k2.get _ (by rw [size_push]; omega), e1]
  have e2 : H2.get (H.size + 2) = .rw 3 [.int .i64 0, .int .i64 0, .int .i64 0] := by rw [k2.get _ (by rw [size_push]; omega), e2]
  have kH := (kH _).trans k2
  simp only [go_sem, seval, get_set_same, get_set_ne, Nat.add_left_cancel_iff, e0, e1]
  refine l9Find_c (g.keep kH) fun H3 k3 => ?_
  have hz3 := k3.size
  have e1 : H3.get (H.size + 1) = .rw 3 [.int .i64 k, .int .i64 b, .int .i64 t] := by rw [k3.get _ (by omega), e1]
  have e2 : H3.get (H.size + 2) = .rw 3 [.int .i64 0, .int .i64 0, .int .i64 0] := by rw [k3.get _ (by omega), e2]
  have kH := kH.trans k3
  have b2 : H.size + 2 < H3.size := by omega
  rcases mk_ok hvv.2 with ⟨rfl, ha, h0⟩ | ⟨rfl, ha, h0⟩ | ⟨rfl, ha, h0⟩
  · rw [ha, ← place_tops (valid_yard hvv.1) h0] at hk
    simp only [go_sem, seval, get_set_same, get_set_ne, Nat.add_left_cancel_iff, e1, e2, b2]
    exact hk _ (kH.set (by omega))
  · rw [ha, ← place_tops (valid_yard hvv.1) h0] at hk
    have c1 : ((2 : Int) == 1) = false := rfl
    simp only [go_sem, seval, get_set_same, get_set_ne, Nat.add_left_cancel_iff, e1, e2, b2, c1]
    exact hk _ (kH.set (by omega))
  · rw [ha, ← place_tops (valid_bay hvv.1) h0] at hk
    have c1 : ((3 : Int) == 1) = false := rfl
    have c2 : ((3 : Int) == 2) = false := rfl
    simp only [go_sem, seval, get_set_same, get_set_ne, Nat.add_left_cancel_iff, e1, e2, b2, c1, c2]
    exact hk _ (kH.set (by omega))
end Go.Ah.A


namespace Go.Ah.A
open Go Go.Ah Go.Proofs
set_option linter.unusedSimpArgs false
variable {H : AHeap}
set_option maxRecDepth 8000 in
theorem law_InverseOrder {as0 as1 : List Value} (r0 : Reads H [.sl 1 [.sl 1 [.int .i64]], .int .i64, .sl 1 [.sl 1 [.int .i64]]] as0) (r1 : Reads H [.int .i64, .int .i64, .int .i64] as1) :
    callA Try.prog 3 #[.agg (List.toArray as0), .agg (List.toArray as1)] H fun r _ => r = .bool true := by
  obtain ⟨v, vs, xss, cs, rfl, h, -, r0⟩ := reads_intss r0
  obtain ⟨q, cs, rfl, -, r0⟩ := reads_int r0
  obtain ⟨u, us, yss, cs, rfl, g, -, r0⟩ := reads_intss r0
  obtain rfl := reads_nil r0
  obtain ⟨k, cs, rfl, -, r1⟩ := reads_int r1
  obtain ⟨b, cs, rfl, -, r1⟩ := reads_int r1
  obtain ⟨t, cs, rfl, -, r1⟩ := reads_int r1
  obtain rfl := reads_nil r1
  clear r0 r1
  refine call_go (fn := Try.f3) (rs := [.tmp 4]) [] (by kernel_rfl) rfl rfl follows (by kernel_rfl) ?_
  simp only [go_sem, seval, push_p, pushes_p, size_p, get_p, get_p0, set_p, set_p0]
  have e0 : At (pushes H [.rw 3 [v, .int .i64 q, u], .rw 3 [.int .i64 k, .int .i64 b, .int .i64 t]]) _ _ := At.p0
  have e1 : At (pushes H [.rw 3 [v, .int .i64 q, u], .rw 3 [.int .i64 k, .int .i64 b, .int .i64 t]]) _ _ := At.p 1 _ rfl
  refine szTerminal_c (h.keep keep_p) (g.keep keep_p) fun r H1 k1 hr => ?_
  replace e0 := e0.keep k1
  replace e1 := e1.keep k1
  replace h := h.keep k1.p1
  replace g := g.keep k1.p1
  by_cases hneg : r < 0
  · have hneg' : decide (r < 0) = true := by simpa using hneg
    simp only [go_sem, seval, hneg']
  have hneg' : decide (r < 0) = false := by simpa using hneg
  obtain ⟨hs, hs'⟩ := hr (by omega)
  simp only [go_sem, seval, hneg', e0.get]
  refine toTerminal_c h g hs hs' fun v1 vs1 u1 us1 H2 k2 h2 g2 => ?_
  replace e0 := e0.keep k2
  replace e1 := e1.keep k2
  replace h := h.keep k2
  replace g := g.keep k2
  simp only [go_sem, seval, e1.get]
  refine ⟨callCond_keep k2, toOrder_c fun H3 k3 => ?_⟩
  replace e0 := e0.keep k3
  replace e1 := e1.keep k3
  replace h := h.keep k3
  replace g := g.keep k3
  replace h2 := h2.keep k3
  replace g2 := g2.keep k3
  simp only [go_sem, seval]
  refine ⟨callCond_keep k3, spInverse_c h2 g2 hs hs' fun H4 k4 => ?_⟩
  replace e0 := e0.keep k4
  replace e1 := e1.keep k4
  replace h := h.keep k4
  replace g := g.keep k4
  obtain ⟨R, hR⟩ : ∃ R, invP xss q yss k b t = R := ⟨_, rfl⟩
  simp only [go_sem, seval, get_set_same, get_set_ne, Nat.add_left_cancel_iff, push_set, hR, (e0.push _).get]
  refine ⟨callCond_keep k4, toTerminal_c (h.keep (AKeep.push _ _)) (g.keep (AKeep.push _ _)) hs hs' fun v2 vs2 u2 us2 H5 k5 h5 g5 => ?_⟩
  have e2 := (At.new _).keep k5
  replace e0 := e0.keep k5.push1
  replace e1 := e1.keep k5.push1
  replace h := h.keep k5.push1
  replace g := g.keep k5.push1
  obtain ⟨a2, m2, c2, rfl⟩ := h5.1.slice
  obtain ⟨a2', m2', c2', rfl⟩ := g5.1.slice
  simp only [go_sem, seval, get_set_same, get_set_ne, Nat.add_left_cancel_iff, push_set, (e1.push _).get]
  refine toOrder_c fun H6 k6 => ?_
  have e3 := (At.new _).keep k6
  replace e0 := e0.keep k6.push1
  replace e1 := e1.keep k6.push1
  replace e2 := e2.keep k6.push1
  replace h := h.keep k6.push1
  replace g := g.keep k6.push1
  replace h5 := h5.keep k6.push1
  replace g5 := g5.keep k6.push1
  simp only [go_sem, seval]
  refine ⟨callCond_keep k6, imInverse_c h5 g5 hs hs' fun H7 k7 => ?_⟩
  replace e0 := e0.keep k7
  replace e1 := e1.keep k7
  replace e2 := e2.keep k7
  replace e3 := e3.keep k7
  replace h := h.keep k7
  replace g := g.keep k7
  replace h5 := h5.keep k7
  replace g5 := g5.keep k7
  simp only [go_sem, seval, get_set_same, get_set_ne, Nat.add_left_cancel_iff, push_set, hR, (At.new _).get, (e2.push _).get]
  refine ⟨callCond_keep k7, eqOrder_c fun H8 k8 => ?_⟩
  replace e0 := e0.keep k8.push1
  replace e1 := e1.keep k8.push1
  replace e2 := e2.keep k8.push1
  replace e3 := e3.keep k8.push1
  replace h := h.keep k8.push1
  replace g := g.keep k8.push1
  replace h5 := h5.keep k8.push1
  replace g5 := g5.keep k8.push1
  simp only [go_sem, seval, e0.get, e3.get]
  refine toTerminal_c h g hs hs' fun v3 vs3 u3 us3 H9 k9 h9 g9 => ?_
  replace h5 := h5.keep k9
  replace g5 := g5.keep k9
  simp only [go_sem, seval]
  refine ⟨callCond_keep k9, eqTerminal_c h5 g5 h9 g9 fun H10 k10 => ?_⟩
  simp only [go_sem, seval]
  exact callCond_keep k10
end Go.Ah.A


namespace Go.Ah.A.fnExactInverseOrder
open Go Go.Ah Go.Proofs Go.Proofs.Ytkkdmegmdcmeaaa
open Go.ChangeShapes Go.WideShapes Go.ChangeAt Go.RowKit
set_option linter.unusedVariables false
theorem own : ownKnob Try.prog.godebug = none := by kernel_rfl
theorem laidOut : laidOutB Try.prog = true := by kernel_rfl
theorem law {H : AHeap} {as0 as1 : List Value} (r0 : Reads H [.sl 1 [.sl 1 [.int .i64]], .int .i64, .sl 1 [.sl 1 [.int .i64]]] as0) (r1 : Reads H [.int .i64, .int .i64, .int .i64] as1) :
    callA Try.prog 3 #[.agg (List.toArray as0), .agg (List.toArray as1)] H fun r _ => r = .bool true := law_InverseOrder r0 r1
set_option maxRecDepth 100000 in
theorem lifted (os : Os) (started : os.Started) (H : Type) (enc : TypeId × Value → H) :
    ReturnsInHanded {} Try.checked os 3 .any (Rows.fnExactInverseOrderSpec.pre6 enc Try.prog Try.f3 Rows.fnExactInverseOrderRow.domain false) (Rows.fnExactInverseOrderSpec.post enc Try.prog Try.f3 false true false false) := by
  refine returnsInHanded_of_change_sized (C := Try.checked) own started (by kernel_rfl) Try.func3
    (ChangeSpec.witness6 (enc := enc) (C := Try.checked) false ⟨#[], #[.agg #[.slice none 0 0, .int .i64 0, .slice none 0 0], .agg #[.int .i64 0, .int .i64 0, .int .i64 0]], []⟩ 8 (by kernel_rfl) (by kernel_rfl) (by kernel_rfl) (by kernel_rfl)) ?_
  intro W base args ds gs before hval0 hW hcnd hsz0 _
  have hval : ∀ (j : Nat) t v, Try.f3.params[j]? = some t → args[j]? = some v → Value.okWide Try.prog W .any base t v := hval0
  have hW' := hW
  obtain ⟨p, q, hA0, hV, rfl, hfz, hnd⟩ := hW
  have hA : DataW.TrodAll enc Try.prog W 0 (fun _ => true) true Try.f3.params.toList args.toList ds p := hA0
  rw [Try.params3] at hA hval
  obtain ⟨v0, vs0, d0, ds0, p0, q0, hargs, rfl, rfl, h0, hr0⟩ := trodAll_cons hA
  obtain ⟨v1, vs1, d1, ds1, p1, q1, rfl, rfl, rfl, h1, hr1⟩ := trodAll_cons hr0
  obtain ⟨rfl, rfl, rfl⟩ := trodAll_nil hr1
  obtain rfl : args = #[v0, v1] := by cases args; simp_all
  obtain ⟨rfl, rfl⟩ := trodVars_none hV
  have k0 := h0
  have lt0 : ∀ x ∈ p0, x.block < W.heap.size := by obtain ⟨m, hm⟩ := k0; exact DataW.trod_lt m _ _ _ hm
  have k1 := h1
  have lt1 : ∀ x ∈ p1, x.block < W.heap.size := by obtain ⟨m, hm⟩ := k1; exact DataW.trod_lt m _ _ _ hm
  obtain ⟨i1, i2, i3⟩ := opened_nil (W := W)
  obtain ⟨m0, A0, as0, o0, e0, g0⟩ := open_struct (n := 8) Try.underlying28 (by kernel_rfl) (hval 0 28 v0 rfl rfl) h0 i1 i2 i3
  obtain ⟨m1, A1, as1, o1, e1, g1⟩ := open_struct (n := 8) Try.underlying30 (by kernel_rfl) (hval 1 30 v1 rfl rfl) h1 o0.1 o0.2.2.1 o0.2.2.2.1
  have hv : VRels m1 #[.agg (List.toArray as0), .agg (List.toArray as1)] #[v0, v1] := VRelL.array (((VRelL.nil _).cons e1).cons (e0.mono o1.2.1))
  refine (calls_of Try.func3 rfl (by kernel_rfl) (law (g0.keep o1.2.2.2.2) g1) o1.1 o1.2.2.1 o1.2.2.2.1 hv).mono fun e W' ⟨v, v', he, ⟨m', A', hk, hvr⟩, bel⟩ => ?_
  subst hk
  cases hvr
  subst he
  exact ⟨_, rfl, _, _, _, [], _, [], hW', trodAll_mk1 (shut_bool Try.underlying4 _), trodAll_cons_mk (Below.trod laidOut (by kernel_rfl) (of_decide_eq_true (by kernel_rfl)) k0 bel lt0) (trodAll_cons_mk (Below.trod laidOut (by kernel_rfl) (of_decide_eq_true (by kernel_rfl)) k1 bel lt1) trodAll_mk0), rfl, bel.frame _, fun h => by cases h⟩
theorem over : Rows.fnExactInverseOrderRow.holds Try.pinned (OpenSpec.ofChange Rows.fnExactInverseOrderSpec) :=
  OpenClaim.holds_of_wide 3 Try.f3 rfl rfl rfl rfl rfl rfl rfl ⟨rfl, rfl, rfl, rfl, rfl⟩ rfl rfl rfl rfl rfl (by kernel_rfl) Try.func3 (by kernel_rfl)
    (of_decide_eq_true (by kernel_rfl)) (by unfold Func.isWrapper; first | (rw [if_pos (by decide +kernel)]; kernel_rfl) | (rw [if_neg (by decide +kernel)]; exact ⟨rfl, rfl⟩))
    (fun os started H enc _ => lifted os started H enc)
theorem proved : Rows.FnExactInverseOrderSaid := over
end Go.Ah.A.fnExactInverseOrder

namespace Go.Proofs.Ytkkdmegmdcmeaaa
open Go Go.Proofs.Ytkkdmegmdcmeaaa
theorem fnExactInverseOrder_holds : Rows.FnExactInverseOrderSaid := Go.Ah.A.fnExactInverseOrder.over
#print axioms fnExactInverseOrder_holds
end Go.Proofs.Ytkkdmegmdcmeaaa
