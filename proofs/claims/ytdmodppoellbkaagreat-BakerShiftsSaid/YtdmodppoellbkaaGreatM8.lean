/-
The reference: Check, Light; alive; the laws.
-/
import Derived.Test.YtdmodppoellbkaaGreatM7
set_option linter.unusedVariables false
set_option linter.unusedSimpArgs false
namespace Go.Proofs.YtdmodppoellbkaaGreat
open Go Go.RowKit
variable (U : Cx)
def IndI (n : Nat) (E : List NE) (xs : List Int) : Prop := ∃ is : List Nat, xs = castL is ∧ IndOk n E is
def okAt (n : Nat) (xs : List Int) (q : Nat) : Prop := ∀ h : q < xs.length, 0 ≤ xs[q] ∧ xs[q] < ((n : Nat) : Int) ∧ (0 < q → xs[q-1] < xs[q])
theorem castL_get (is : List Nat) {q : Nat} (h : q < (castL is).length) : (castL is)[q] = ((is[q]'(by simpa [castL] using h) : Nat) : Int) := by simp [castL]
theorem okAt.to {n : Nat} {xs : List Int} (h : ∀ q, q < xs.length → okAt n xs q) : ∃ is : List Nat, xs = castL is ∧ is.Pairwise (· < ·) ∧ ∀ v ∈ is, v < n := by
  have hE : xs = castL (xs.map Int.toNat) := by
    unfold castL; rw [List.map_map]; conv => lhs; rw [← List.map_id xs]
    refine List.map_congr_left fun x hx => ?_
    obtain ⟨q, hq, rfl⟩ := List.mem_iff_getElem.1 hx
    have := h q hq hq
    simp only [Function.comp, id]; omega
  refine ⟨_, hE, ?_, fun v hv => ?_⟩
  · rw [List.pairwise_map]
    have step : ∀ q (hq : q + 1 < xs.length), xs[q] < xs[q+1] := fun q hq => by have := (h (q + 1) hq hq).2.2 (by omega); simpa using this
    refine List.pairwise_iff_getElem.2 fun i j hi hj hij => ?_
    have key : xs[i] < xs[j] := by
      clear hE
      obtain ⟨d, rfl⟩ : ∃ d, j = i + 1 + d := ⟨j - (i + 1), by omega⟩
      clear hij
      induction d with
      | zero => exact step i hj
      | succ d ih => have h1 := ih (by omega); have h2 := step (i + 1 + d) hj; simp only [Nat.add_assoc] at *; omega
    have := h i hi hi; omega
  · obtain ⟨x, hx, rfl⟩ := List.mem_map.1 hv
    obtain ⟨q, hq, rfl⟩ := List.mem_iff_getElem.1 hx
    have := h q hq hq; omega
theorem IndOk.okAt {n : Nat} {E : List NE} {is : List Nat} (h : IndOk n E is) (q : Nat) : okAt n (castL is) q := by
  intro hq
  have hq' : q < is.length := by simpa [castL] using hq
  refine ⟨by rw [castL_get]; omega, by rw [castL_get]; have := h.2.1 _ (List.getElem_mem hq'); omega, fun h0 => ?_⟩
  rw [castL_get, castL_get]
  have := List.pairwise_iff_getElem.1 h.1 (q - 1) q (by omega) hq' (by omega); omega
theorem castL_inj {a b : List Nat} (h : castL a = castL b) : a = b := by
  have := congrArg (List.map Int.toNat) h
  simpa [castL, Function.comp_def] using this
theorem s7 (n : Nat) (E : List NE) (sv iv : Value) (xs : List Int) (hg : GOk n E) (hl : xs.length ≤ 100000) (H : Hp) (N : Nat) (hv : RdS U H sv 3 (necs E)) (hx : RdS U H iv 1 (ints xs)) : Spec U 7 #[(.agg #[(.int .i64 ((n : Nat) : Int)), sv]), iv] H N (fun v H' N' => (∃ k : Int, v = .int .i64 k ∧ (k = 0 ↔ IndI n E xs)) ∧ Sub H H' ∧ N ≤ N') := by
  obtain ⟨p, cap, rfl, hc, hp⟩ := hv.edges U
  have hx0 := hx
  obtain ⟨xp, xcap, rfl, hxc, hxp⟩ := hx.cells1 U
  refine spa U pf_7 (m := 71) rfl rfl (by simp) fun hBN hlt => ?_
  obtain ⟨J, hJ⟩ := Has.ex (T := argsT #[(.agg #[(.int .i64 ((n : Nat) : Int)), (.slice p E.length cap)]), (.slice xp ((ints xs).length) xcap)]) (l := [(0, (.agg #[(.int .i64 ((n : Nat) : Int)), (.slice p E.length cap)])), (1, (.slice xp ((ints xs).length) xcap))]) ⟨rfl, rfl, trivial⟩
  rw [hJ]; clear hJ
  have hn := hg.hn; have hm := hg.hm; have hil := ints_length xs
  repeat (first|refine nt ?_|refine nq ?_|refine wq U ?_)
  refine wg U ?_
  refine wl_op U rfl rfl (op_box U rfl rfl ?_)
  refine wr U ((ra U).to (v' := (.int .i64 0)) rfl) rfl rfl ?_
  refine wz U ?_
  repeat (first|refine nt ?_|refine nq ?_)
  refine wc_gen U (fun R => R N = some (.row 24 0 [(.int .i64 ((n : Nat) : Int)), (.slice p E.length cap)] 2) ∧ Sub _ R) ⟨(by first|(rw [hsy]; done) | (rw [hsy]; rfl)), ((Sub.refl _).hset (fresh hlt (by omega)))⟩ ?_
  rintro H1 ⟨hx_1, hs1⟩ hBNH1 hltH1
  repeat (first|refine nt ?_|refine nq ?_|refine wq U ?_)
  refine wg U ?_
  refine wr U (rd_load2 U el_24 rfl (v0 := (.int .i64 ((n : Nat) : Int))) (v1 := (.slice p E.length cap))  (by rw [rrw U (by omega) hx_1]; rfl) (by rw [rrw U (by omega) hx_1]; rfl)) rfl rfl ?_
  refine wl_op U rfl rfl (op_call U Tryz.f15 rfl rfl pf_15 (by kernel_rfl) (by kernel_rfl) ((s15 U ((n : Nat) : Int) (E.map nE) _ (by omega) (by rw [List.length_map]; exact hm) _ _ (by rw [ecs_nE]; exact hv.sub U hs1)).mono U ?_))
  rintro _ R M ⟨⟨k0, rfl, hk0⟩, hs2, hN2⟩
  have hx_2 := hs2 N _ hx_1
  have hs_3 := (Sub.refl _).trans hs2
  refine wr U ((rd_neq U rfl rfl).to (v' := (.bool false)) (congrArg Value.bool (decide_eq_false (fun h => h (hk0.2 hg.rightI))))) rfl rfl ?_
  refine wz U ?_
  repeat (first|refine nt ?_|refine nq ?_|refine wq U ?_)
  refine wcd U (t := false) rfl (fun h => nomatch h) fun _ => ?_
  refine wsk U ?_
  repeat (first|refine nt ?_|refine nq ?_)
  have hs := hs1.trans hs2
  have hbx := hs2 _ _ hx_1
  have hv2 := hv.sub U hs; have hxr := hx0.sub U hs
  have hNB : U.B ≤ N := hBN
  refine wc_own U fun hBM hltR => ?_
  repeat (first|refine nt ?_|refine nq ?_|refine wq U ?_)
  refine wg U ?_
  refine wr U ((ra U).to (v' := (.int .i64 0)) rfl) rfl rfl ?_
  refine wz U ?_
  repeat (first|refine nt ?_|refine nq ?_|refine wq U ?_)
  repeat (first|refine nt ?_|refine nq ?_|refine wq U ?_)
  refine wc_block U ?_
  refine wc_loop U (fun q T H' N' => ∃ (i : Nat), i ≤ xs.length ∧ q = xs.length - i ∧ Has T [(1, (.slice xp ((ints xs).length) xcap)), (2, (.pointer (some ⟨N, 0, none⟩))), (5, (.int .i64 ((i : Nat) : Int)))] ∧ (∀ q, q < i → okAt n xs q) ∧ R = H' ∧ M = N') xs.length ⟨0, Nat.zero_le _, rfl, ⟨rfl, rfl, rfl, trivial⟩, fun q h => by omega, rfl, rfl⟩ ?_
  rintro q T _ _ ⟨i, hi, rfl, hT, hok, rfl, rfl⟩
  obtain ⟨J, rfl⟩ := hT.ex
  repeat (first|refine nt ?_|refine nq ?_|refine wq U ?_)
  refine wg U ?_
  refine wr U ((rm U).to (v' := (.int .i64 ((i : Nat) : Int))) rfl) rfl rfl ?_
  refine wr U ((rm U).to (v' := (.slice xp ((ints xs).length) xcap)) rfl) rfl rfl ?_
  refine wr U ((rd_len' U sl_26 rfl).to (v' := (.int .i64 (((ints xs).length : Nat) : Int))) rfl) rfl rfl ?_
  refine wr U (rd_lss U rfl rfl) rfl rfl ?_
  refine wz U ?_
  repeat (first|refine nt ?_|refine nq ?_|refine wq U ?_)
  refine wcd U (t := (decide (((i : Nat) : Int) < (((ints xs).length : Nat) : Int)))) rfl (fun hck => ?_) fun hck => ?_
  · replace hck := of_decide_eq_true hck
    refine wsk U ?_
    repeat (first|refine nt ?_|refine nq ?_)
    have hi1 : i < xs.length := by omega
    obtain ⟨xb, xo, rfl⟩ := hxp (by omega)
    repeat (first|refine nt ?_|refine nq ?_|refine wq U ?_)
    refine wc_block U ?_
    repeat (first|refine nt ?_|refine nq ?_|refine wq U ?_)
    refine wc_draw U R mixed ?_
    refine wh_rd U 0 rfl ((rm U).to (v' := (.slice (some ⟨xb, xo, none⟩) ((ints xs).length) xcap)) rfl) (by kernel_rfl) (by kernel_rfl) (by kernel_rfl) rfl rfl (Sub.refl _) ?_
    refine wh_rd U 1 rfl ((rm U).to (v' := (.int .i64 ((i : Nat) : Int))) rfl) (by kernel_rfl) (by kernel_rfl) (by kernel_rfl) rfl rfl (Sub.refl _) ?_
    refine wh_rd U 2 rfl (rd_idx1 U (j := i) sl_26 rfl rfl (by omega)) (by kernel_rfl) (by kernel_rfl) (by kernel_rfl) rfl rfl (Sub.refl _) ?_
    refine wh_rd U 3 rfl (rl1 U el_3 rfl (v := (.int .i64 (xs[i]))) (hxr.get U (ints_get hi1))) (by kernel_rfl) (by kernel_rfl) (by kernel_rfl) rfl rfl (Sub.refl _) ?_
    by_cases h6_4 : xs[i] < 0
    · skip
      refine wh_rd U 4 rfl ((rd_lss U rfl rfl).to (v' := (.bool true)) (congrArg Value.bool (decide_eq_true h6_4))) (by kernel_rfl) (by kernel_rfl) (by kernel_rfl) rfl rfl (Sub.refl _) ?_
      refine wh_rd U 5 rfl ((rm U).to (v' := (.bool true)) rfl) (by kernel_rfl) (by kernel_rfl) (by kernel_rfl) rfl rfl (Sub.refl _) ?_
      refine wh_skip U 6 rfl (by kernel_rfl) (by kernel_rfl) (by kernel_rfl) rfl rfl (Sub.refl _) ?_
      refine wh_skip U 7 rfl (by kernel_rfl) (by kernel_rfl) (by kernel_rfl) rfl rfl (Sub.refl _) ?_
      refine wh_skip U 8 rfl (by kernel_rfl) (by kernel_rfl) (by kernel_rfl) rfl rfl (Sub.refl _) ?_
      refine wh_skip U 9 rfl (by kernel_rfl) (by kernel_rfl) (by kernel_rfl) rfl rfl (Sub.refl _) ?_
      refine wh_skip U 10 rfl (by kernel_rfl) (by kernel_rfl) (by kernel_rfl) rfl rfl (Sub.refl _) ?_
      refine wh_skip U 11 rfl (by kernel_rfl) (by kernel_rfl) (by kernel_rfl) rfl rfl (Sub.refl _) ?_
      refine wh_skip U 12 rfl (by kernel_rfl) (by kernel_rfl) (by kernel_rfl) rfl rfl (Sub.refl _) ?_
      refine wh_rd U 13 rfl ((rd_pick U rfl).to (v' := (.bool true)) rfl) (by kernel_rfl) (by kernel_rfl) (by kernel_rfl) rfl rfl (Sub.refl _) ?_
      refine wh_rd U 14 rfl ((rm U).to (v' := (.bool true)) rfl) (by kernel_rfl) (by kernel_rfl) (by kernel_rfl) rfl rfl (Sub.refl _) ?_
      refine wh_skip U 15 rfl (by kernel_rfl) (by kernel_rfl) (by kernel_rfl) rfl rfl (Sub.refl _) ?_
      refine wh_skip U 16 rfl (by kernel_rfl) (by kernel_rfl) (by kernel_rfl) rfl rfl (Sub.refl _) ?_
      refine wh_skip U 17 rfl (by kernel_rfl) (by kernel_rfl) (by kernel_rfl) rfl rfl (Sub.refl _) ?_
      refine wh_skip U 18 rfl (by kernel_rfl) (by kernel_rfl) (by kernel_rfl) rfl rfl (Sub.refl _) ?_
      refine wh_skip U 19 rfl (by kernel_rfl) (by kernel_rfl) (by kernel_rfl) rfl rfl (Sub.refl _) ?_
      refine wh_skip U 20 rfl (by kernel_rfl) (by kernel_rfl) (by kernel_rfl) rfl rfl (Sub.refl _) ?_
      refine wh_skip U 21 rfl (by kernel_rfl) (by kernel_rfl) (by kernel_rfl) rfl rfl (Sub.refl _) ?_
      refine wh_skip U 22 rfl (by kernel_rfl) (by kernel_rfl) (by kernel_rfl) rfl rfl (Sub.refl _) ?_
      refine wh_skip U 23 rfl (by kernel_rfl) (by kernel_rfl) (by kernel_rfl) rfl rfl (Sub.refl _) ?_
      refine wh_skip U 24 rfl (by kernel_rfl) (by kernel_rfl) (by kernel_rfl) rfl rfl (Sub.refl _) ?_
      refine wh_skip U 25 rfl (by kernel_rfl) (by kernel_rfl) (by kernel_rfl) rfl rfl (Sub.refl _) ?_
      refine wh_skip U 26 rfl (by kernel_rfl) (by kernel_rfl) (by kernel_rfl) rfl rfl (Sub.refl _) ?_
      refine wh_skip U 27 rfl (by kernel_rfl) (by kernel_rfl) (by kernel_rfl) rfl rfl (Sub.refl _) ?_
      refine wh_skip U 28 rfl (by kernel_rfl) (by kernel_rfl) (by kernel_rfl) rfl rfl (Sub.refl _) ?_
      refine wh_rd U 29 rfl ((rd_pick U rfl).to (v' := (.bool true)) rfl) (by kernel_rfl) (by kernel_rfl) (by kernel_rfl) rfl rfl (Sub.refl _) ?_
      refine wh_done U (by kernel_rfl) ?_
      repeat (first|refine nt ?_|refine nq ?_|refine wq U ?_)
      refine wcd U (t := true) rfl (fun _ => ?_) (fun h => nomatch h)
      repeat (first|refine nt ?_|refine nq ?_|refine wq U ?_)
      refine wg U ?_
      refine wr U ((ra U).to (v' := (.int .i64 13)) rfl) rfl rfl ?_
      refine wz U ?_
      refine wc_ret U ?_
      repeat (first|refine ret1 ?_|refine ret2 ?_)
      exact end1 U (.inl rfl) rfl (v := (.int .i64 13)) rfl ⟨⟨_, rfl, ⟨fun h => absurd h (by decide), fun ⟨is, e, hI⟩ => by subst e; have := hI.okAt i hi1; omega⟩⟩, hs, by omega⟩
    · skip
      refine wh_rd U 4 rfl ((rd_lss U rfl rfl).to (v' := (.bool false)) (congrArg Value.bool (decide_eq_false h6_4))) (by kernel_rfl) (by kernel_rfl) (by kernel_rfl) rfl rfl (Sub.refl _) ?_
      refine wh_rd U 5 rfl ((rm U).to (v' := (.bool false)) rfl) (by kernel_rfl) (by kernel_rfl) (by kernel_rfl) rfl rfl (Sub.refl _) ?_
      refine wh_rd U 6 rfl ((rm U).to (v' := (.slice (some ⟨xb, xo, none⟩) ((ints xs).length) xcap)) rfl) (by kernel_rfl) (by kernel_rfl) (by kernel_rfl) rfl rfl (Sub.refl _) ?_
      refine wh_rd U 7 rfl ((rm U).to (v' := (.int .i64 ((i : Nat) : Int))) rfl) (by kernel_rfl) (by kernel_rfl) (by kernel_rfl) rfl rfl (Sub.refl _) ?_
      refine wh_rd U 8 rfl (rd_idx1 U (j := i) sl_26 rfl rfl (by omega)) (by kernel_rfl) (by kernel_rfl) (by kernel_rfl) rfl rfl (Sub.refl _) ?_
      refine wh_rd U 9 rfl (rl1 U el_3 rfl (v := (.int .i64 (xs[i]))) (hxr.get U (ints_get hi1))) (by kernel_rfl) (by kernel_rfl) (by kernel_rfl) rfl rfl (Sub.refl _) ?_
      refine wh_rd U 10 rfl ((rfa U fb_24_0 rfl).to (v' := (.pointer (some ⟨N, 0, none⟩))) rfl) (by kernel_rfl) (by kernel_rfl) (by kernel_rfl) rfl rfl (Sub.refl _) ?_
      refine wh_rd U 11 rfl (rl1 U el_3 rfl (v := (.int .i64 ((n : Nat) : Int))) (by rw [rrw U (by omega) hbx]; rfl)) (by kernel_rfl) (by kernel_rfl) (by kernel_rfl) rfl rfl (Sub.refl _) ?_
      by_cases h6_12 : ((n : Nat) : Int) ≤ xs[i]
      · skip
        refine wh_rd U 12 rfl ((rd_geq U rfl rfl).to (v' := (.bool true)) (congrArg Value.bool (decide_eq_true h6_12))) (by kernel_rfl) (by kernel_rfl) (by kernel_rfl) rfl rfl (Sub.refl _) ?_
        refine wh_rd U 13 rfl ((rd_pick U rfl).to (v' := (.bool true)) rfl) (by kernel_rfl) (by kernel_rfl) (by kernel_rfl) rfl rfl (Sub.refl _) ?_
        refine wh_rd U 14 rfl ((rm U).to (v' := (.bool true)) rfl) (by kernel_rfl) (by kernel_rfl) (by kernel_rfl) rfl rfl (Sub.refl _) ?_
        refine wh_skip U 15 rfl (by kernel_rfl) (by kernel_rfl) (by kernel_rfl) rfl rfl (Sub.refl _) ?_
        refine wh_skip U 16 rfl (by kernel_rfl) (by kernel_rfl) (by kernel_rfl) rfl rfl (Sub.refl _) ?_
        refine wh_skip U 17 rfl (by kernel_rfl) (by kernel_rfl) (by kernel_rfl) rfl rfl (Sub.refl _) ?_
        refine wh_skip U 18 rfl (by kernel_rfl) (by kernel_rfl) (by kernel_rfl) rfl rfl (Sub.refl _) ?_
        refine wh_skip U 19 rfl (by kernel_rfl) (by kernel_rfl) (by kernel_rfl) rfl rfl (Sub.refl _) ?_
        refine wh_skip U 20 rfl (by kernel_rfl) (by kernel_rfl) (by kernel_rfl) rfl rfl (Sub.refl _) ?_
        refine wh_skip U 21 rfl (by kernel_rfl) (by kernel_rfl) (by kernel_rfl) rfl rfl (Sub.refl _) ?_
        refine wh_skip U 22 rfl (by kernel_rfl) (by kernel_rfl) (by kernel_rfl) rfl rfl (Sub.refl _) ?_
        refine wh_skip U 23 rfl (by kernel_rfl) (by kernel_rfl) (by kernel_rfl) rfl rfl (Sub.refl _) ?_
        refine wh_skip U 24 rfl (by kernel_rfl) (by kernel_rfl) (by kernel_rfl) rfl rfl (Sub.refl _) ?_
        refine wh_skip U 25 rfl (by kernel_rfl) (by kernel_rfl) (by kernel_rfl) rfl rfl (Sub.refl _) ?_
        refine wh_skip U 26 rfl (by kernel_rfl) (by kernel_rfl) (by kernel_rfl) rfl rfl (Sub.refl _) ?_
        refine wh_skip U 27 rfl (by kernel_rfl) (by kernel_rfl) (by kernel_rfl) rfl rfl (Sub.refl _) ?_
        refine wh_skip U 28 rfl (by kernel_rfl) (by kernel_rfl) (by kernel_rfl) rfl rfl (Sub.refl _) ?_
        refine wh_rd U 29 rfl ((rd_pick U rfl).to (v' := (.bool true)) rfl) (by kernel_rfl) (by kernel_rfl) (by kernel_rfl) rfl rfl (Sub.refl _) ?_
        refine wh_done U (by kernel_rfl) ?_
        repeat (first|refine nt ?_|refine nq ?_|refine wq U ?_)
        refine wcd U (t := true) rfl (fun _ => ?_) (fun h => nomatch h)
        repeat (first|refine nt ?_|refine nq ?_|refine wq U ?_)
        refine wg U ?_
        refine wr U ((ra U).to (v' := (.int .i64 13)) rfl) rfl rfl ?_
        refine wz U ?_
        refine wc_ret U ?_
        repeat (first|refine ret1 ?_|refine ret2 ?_)
        exact end1 U (.inl rfl) rfl (v := (.int .i64 13)) rfl ⟨⟨_, rfl, ⟨fun h => absurd h (by decide), fun ⟨is, e, hI⟩ => by subst e; have := hI.okAt i hi1; omega⟩⟩, hs, by omega⟩
      · skip
        refine wh_rd U 12 rfl ((rd_geq U rfl rfl).to (v' := (.bool false)) (congrArg Value.bool (decide_eq_false h6_12))) (by kernel_rfl) (by kernel_rfl) (by kernel_rfl) rfl rfl (Sub.refl _) ?_
        refine wh_rd U 13 rfl ((rd_pick U rfl).to (v' := (.bool false)) rfl) (by kernel_rfl) (by kernel_rfl) (by kernel_rfl) rfl rfl (Sub.refl _) ?_
        refine wh_rd U 14 rfl ((rm U).to (v' := (.bool false)) rfl) (by kernel_rfl) (by kernel_rfl) (by kernel_rfl) rfl rfl (Sub.refl _) ?_
        refine wh_rd U 15 rfl ((rm U).to (v' := (.int .i64 ((i : Nat) : Int))) rfl) (by kernel_rfl) (by kernel_rfl) (by kernel_rfl) rfl rfl (Sub.refl _) ?_
        by_cases h6_16 : 0 < ((i : Nat) : Int)
        · skip
          refine wh_rd U 16 rfl ((rd_gtr U rfl rfl).to (v' := (.bool true)) (congrArg Value.bool (decide_eq_true h6_16))) (by kernel_rfl) (by kernel_rfl) (by kernel_rfl) rfl rfl (Sub.refl _) ?_
          refine wh_rd U 17 rfl ((rm U).to (v' := (.bool true)) rfl) (by kernel_rfl) (by kernel_rfl) (by kernel_rfl) rfl rfl (Sub.refl _) ?_
          refine wh_rd U 18 rfl ((rm U).to (v' := (.slice (some ⟨xb, xo, none⟩) ((ints xs).length) xcap)) rfl) (by kernel_rfl) (by kernel_rfl) (by kernel_rfl) rfl rfl (Sub.refl _) ?_
          refine wh_rd U 19 rfl ((rm U).to (v' := (.int .i64 ((i : Nat) : Int))) rfl) (by kernel_rfl) (by kernel_rfl) (by kernel_rfl) rfl rfl (Sub.refl _) ?_
          have hi0 : i - 1 < xs.length := by omega
          refine wh_rd U 20 rfl (rd_sub' U rfl rfl (by omega) (by omega)) (by kernel_rfl) (by kernel_rfl) (by kernel_rfl) rfl rfl (Sub.refl _) ?_
          refine wh_rd U 21 rfl (rd_idxI1 U (i-1) sl_26 rfl rfl (by omega) (by omega)) (by kernel_rfl) (by kernel_rfl) (by kernel_rfl) rfl rfl (Sub.refl _) ?_
          refine wh_rd U 22 rfl (rl1 U el_3 rfl (v := (.int .i64 (xs[i-1]))) (hxr.get U (ints_get hi0))) (by kernel_rfl) (by kernel_rfl) (by kernel_rfl) rfl rfl (Sub.refl _) ?_
          refine wh_rd U 23 rfl ((rm U).to (v' := (.slice (some ⟨xb, xo, none⟩) ((ints xs).length) xcap)) rfl) (by kernel_rfl) (by kernel_rfl) (by kernel_rfl) rfl rfl (Sub.refl _) ?_
          refine wh_rd U 24 rfl ((rm U).to (v' := (.int .i64 ((i : Nat) : Int))) rfl) (by kernel_rfl) (by kernel_rfl) (by kernel_rfl) rfl rfl (Sub.refl _) ?_
          refine wh_rd U 25 rfl (rd_idx1 U (j := i) sl_26 rfl rfl (by omega)) (by kernel_rfl) (by kernel_rfl) (by kernel_rfl) rfl rfl (Sub.refl _) ?_
          refine wh_rd U 26 rfl (rl1 U el_3 rfl (v := (.int .i64 (xs[i]))) (hxr.get U (ints_get hi1))) (by kernel_rfl) (by kernel_rfl) (by kernel_rfl) rfl rfl (Sub.refl _) ?_
          by_cases h6_27 : xs[i] ≤ xs[i-1]
          · skip
            refine wh_rd U 27 rfl ((rd_geq U rfl rfl).to (v' := (.bool true)) (congrArg Value.bool (decide_eq_true h6_27))) (by kernel_rfl) (by kernel_rfl) (by kernel_rfl) rfl rfl (Sub.refl _) ?_
            refine wh_rd U 28 rfl ((rd_pick U rfl).to (v' := (.bool true)) rfl) (by kernel_rfl) (by kernel_rfl) (by kernel_rfl) rfl rfl (Sub.refl _) ?_
            refine wh_rd U 29 rfl ((rd_pick U rfl).to (v' := (.bool true)) rfl) (by kernel_rfl) (by kernel_rfl) (by kernel_rfl) rfl rfl (Sub.refl _) ?_
            refine wh_done U (by kernel_rfl) ?_
            repeat (first|refine nt ?_|refine nq ?_|refine wq U ?_)
            refine wcd U (t := true) rfl (fun _ => ?_) (fun h => nomatch h)
            repeat (first|refine nt ?_|refine nq ?_|refine wq U ?_)
            refine wg U ?_
            refine wr U ((ra U).to (v' := (.int .i64 13)) rfl) rfl rfl ?_
            refine wz U ?_
            refine wc_ret U ?_
            repeat (first|refine ret1 ?_|refine ret2 ?_)
            exact end1 U (.inl rfl) rfl (v := (.int .i64 13)) rfl ⟨⟨_, rfl, ⟨fun h => absurd h (by decide), fun ⟨is, e, hI⟩ => by subst e; have := hI.okAt i hi1; omega⟩⟩, hs, by omega⟩
          · skip
            refine wh_rd U 27 rfl ((rd_geq U rfl rfl).to (v' := (.bool false)) (congrArg Value.bool (decide_eq_false h6_27))) (by kernel_rfl) (by kernel_rfl) (by kernel_rfl) rfl rfl (Sub.refl _) ?_
            refine wh_rd U 28 rfl ((rd_pick U rfl).to (v' := (.bool false)) rfl) (by kernel_rfl) (by kernel_rfl) (by kernel_rfl) rfl rfl (Sub.refl _) ?_
            refine wh_rd U 29 rfl ((rd_pick U rfl).to (v' := (.bool false)) rfl) (by kernel_rfl) (by kernel_rfl) (by kernel_rfl) rfl rfl (Sub.refl _) ?_
            refine wh_done U (by kernel_rfl) ?_
            repeat (first|refine nt ?_|refine nq ?_|refine wq U ?_)
            refine wcd U (t := false) rfl (fun h => nomatch h) fun _ => ?_
            refine wsk U ?_
            repeat (first|refine nt ?_|refine nq ?_)
            repeat (first|refine nt ?_|refine nq ?_|refine wq U ?_)
            refine wg U ?_
            refine wr U ((rm U).to (v' := (.int .i64 ((i : Nat) : Int))) rfl) rfl rfl ?_
            refine wr U (rd_add U rfl rfl (by omega) (by omega)) rfl rfl ?_
            refine wr U ((ra U).to (v' := (.int .i64 (((i : Nat) : Int) + 1))) rfl) rfl rfl ?_
            refine wz U ?_
            repeat (first|refine nt ?_|refine nq ?_)
            refine ⟨xs.length - (i + 1), by omega, i + 1, by omega, rfl, ⟨rfl, rfl, rfl, trivial⟩, fun q hq => ?_, rfl, rfl⟩
            rcases Nat.lt_or_ge q i with h | h
            · exact hok q h
            · obtain rfl : q = i := by omega
              intro h2; exact ⟨by omega, by omega, fun h0 => by omega⟩
        · skip
          refine wh_rd U 16 rfl ((rd_gtr U rfl rfl).to (v' := (.bool false)) (congrArg Value.bool (decide_eq_false h6_16))) (by kernel_rfl) (by kernel_rfl) (by kernel_rfl) rfl rfl (Sub.refl _) ?_
          refine wh_rd U 17 rfl ((rm U).to (v' := (.bool false)) rfl) (by kernel_rfl) (by kernel_rfl) (by kernel_rfl) rfl rfl (Sub.refl _) ?_
          refine wh_skip U 18 rfl (by kernel_rfl) (by kernel_rfl) (by kernel_rfl) rfl rfl (Sub.refl _) ?_
          refine wh_skip U 19 rfl (by kernel_rfl) (by kernel_rfl) (by kernel_rfl) rfl rfl (Sub.refl _) ?_
          refine wh_skip U 20 rfl (by kernel_rfl) (by kernel_rfl) (by kernel_rfl) rfl rfl (Sub.refl _) ?_
          refine wh_skip U 21 rfl (by kernel_rfl) (by kernel_rfl) (by kernel_rfl) rfl rfl (Sub.refl _) ?_
          refine wh_skip U 22 rfl (by kernel_rfl) (by kernel_rfl) (by kernel_rfl) rfl rfl (Sub.refl _) ?_
          refine wh_skip U 23 rfl (by kernel_rfl) (by kernel_rfl) (by kernel_rfl) rfl rfl (Sub.refl _) ?_
          refine wh_skip U 24 rfl (by kernel_rfl) (by kernel_rfl) (by kernel_rfl) rfl rfl (Sub.refl _) ?_
          refine wh_skip U 25 rfl (by kernel_rfl) (by kernel_rfl) (by kernel_rfl) rfl rfl (Sub.refl _) ?_
          refine wh_skip U 26 rfl (by kernel_rfl) (by kernel_rfl) (by kernel_rfl) rfl rfl (Sub.refl _) ?_
          refine wh_skip U 27 rfl (by kernel_rfl) (by kernel_rfl) (by kernel_rfl) rfl rfl (Sub.refl _) ?_
          refine wh_rd U 28 rfl ((rd_pick U rfl).to (v' := (.bool false)) rfl) (by kernel_rfl) (by kernel_rfl) (by kernel_rfl) rfl rfl (Sub.refl _) ?_
          refine wh_rd U 29 rfl ((rd_pick U rfl).to (v' := (.bool false)) rfl) (by kernel_rfl) (by kernel_rfl) (by kernel_rfl) rfl rfl (Sub.refl _) ?_
          refine wh_done U (by kernel_rfl) ?_
          repeat (first|refine nt ?_|refine nq ?_|refine wq U ?_)
          refine wcd U (t := false) rfl (fun h => nomatch h) fun _ => ?_
          refine wsk U ?_
          repeat (first|refine nt ?_|refine nq ?_)
          repeat (first|refine nt ?_|refine nq ?_|refine wq U ?_)
          refine wg U ?_
          refine wr U ((rm U).to (v' := (.int .i64 ((i : Nat) : Int))) rfl) rfl rfl ?_
          refine wr U (rd_add U rfl rfl (by omega) (by omega)) rfl rfl ?_
          refine wr U ((ra U).to (v' := (.int .i64 (((i : Nat) : Int) + 1))) rfl) rfl rfl ?_
          refine wz U ?_
          repeat (first|refine nt ?_|refine nq ?_)
          refine ⟨xs.length - (i + 1), by omega, i + 1, by omega, rfl, ⟨rfl, rfl, rfl, trivial⟩, fun q hq => ?_, rfl, rfl⟩
          rcases Nat.lt_or_ge q i with h | h
          · exact hok q h
          · obtain rfl : q = i := by omega
            intro h2; exact ⟨by omega, by omega, fun h0 => by omega⟩
  · replace hck := of_decide_eq_false hck
    refine wc_exit U ?_
    repeat (first|refine xt ?_|refine xps (by decide) ?_)
    refine xbl ?_
    repeat (first|refine nt ?_|refine nq ?_)
    obtain ⟨is, his, hsrt, hlt⟩ := okAt.to fun q hq => hok q (by omega)
    have hmem : ∀ v : Nat, ((v : Nat) : Int) ∈ xs ↔ v ∈ is := fun v => by rw [his]; exact mem_castL
    repeat (first|refine nt ?_|refine nq ?_|refine wq U ?_)
    refine wg U ?_
    refine wr U ((ra U).to (v' := (.int .i64 0)) rfl) rfl rfl ?_
    refine wz U ?_
    repeat (first|refine nt ?_|refine nq ?_|refine wq U ?_)
    refine wc_block U ?_
    refine wc_loop U (fun q T H' N' => ∃ (k : Nat), k ≤ E.length ∧ q = E.length - k ∧ Has T [(1, (.slice xp ((ints xs).length) xcap)), (2, (.pointer (some ⟨N, 0, none⟩))), (6, (.int .i64 ((k : Nat) : Int)))] ∧ (∀ e ∈ E.take k, ¬ (e.1 ∈ is ∧ e.2.1 ∈ is)) ∧ R = H' ∧ M = N') E.length ⟨0, Nat.zero_le _, rfl, ⟨rfl, rfl, rfl, trivial⟩, by simp, rfl, rfl⟩ ?_
    rintro q T _ _ ⟨k, hk, rfl, hT, hno, rfl, rfl⟩
    obtain ⟨J, rfl⟩ := hT.ex
    repeat (first|refine nt ?_|refine nq ?_|refine wq U ?_)
    refine wg U ?_
    refine wr U ((rm U).to (v' := (.int .i64 ((k : Nat) : Int))) rfl) rfl rfl ?_
    refine wr U ((rfa U fb_24_1 rfl).to (v' := (.pointer (some ⟨N, 1, none⟩))) rfl) rfl rfl ?_
    refine wr U (rl1 U el_22 rfl (v := (.slice p E.length cap)) (by rw [rrw U (by omega) hbx]; rfl)) rfl rfl ?_
    refine wr U ((rd_len' U sl_22 rfl).to (v' := (.int .i64 ((E.length : Nat) : Int))) rfl) rfl rfl ?_
    refine wr U (rd_lss U rfl rfl) rfl rfl ?_
    refine wz U ?_
    repeat (first|refine nt ?_|refine nq ?_|refine wq U ?_)
    refine wcd U (t := (decide (((k : Nat) : Int) < ((E.length : Nat) : Int)))) rfl (fun hck2 => ?_) fun hck2 => ?_
    · replace hck2 := of_decide_eq_true hck2
      refine wsk U ?_
      repeat (first|refine nt ?_|refine nq ?_)
      have hk1 : k < E.length := by omega
      obtain ⟨eb, eo, rfl⟩ := hp (by omega)
      repeat (first|refine nt ?_|refine nq ?_|refine wq U ?_)
      refine wc_block U ?_
      repeat (first|refine nt ?_|refine nq ?_|refine wq U ?_)
      refine wg U ?_
      refine wr U ((rm U).to (v' := (.slice xp ((ints xs).length) xcap)) rfl) rfl rfl ?_
      refine wr U ((rfa U fb_24_1 rfl).to (v' := (.pointer (some ⟨N, 1, none⟩))) rfl) rfl rfl ?_
      refine wr U (rl1 U el_22 rfl (v := (.slice (some ⟨eb, eo, none⟩) E.length cap)) (by rw [rrw U (by omega) hbx]; rfl)) rfl rfl ?_
      refine wr U ((rm U).to (v' := (.int .i64 ((k : Nat) : Int))) rfl) rfl rfl ?_
      refine wr U (rd_idxN U (j := k) sl_22 rfl rfl (by omega)) rfl rfl ?_
      refine wr U ((rfa U fb_43_0 rfl).to (v' := (.pointer (some ⟨eb, eo + k * 3 + 0, none⟩))) rfl) rfl rfl ?_
      refine wr U (rl1 U el_3 rfl (v := (.int .i64 ((E[k].1 : Nat) : Int))) (hv2.e0 U hk1)) rfl rfl ?_
      refine wl_op U rfl rfl (op_call U Tryz.f16 rfl rfl pf_16 (by kernel_rfl) (by kernel_rfl) ((s16 U xs ((E[k].1 : Nat) : Int) _ (by omega) R M hxr).mono U ?_))
      rintro _ _ _ ⟨rfl, rfl, rfl⟩
      obtain ⟨b1, hb1⟩ : ∃ b, decide (((E[k].1 : Nat) : Int) ∈ xs) = b := ⟨_, rfl⟩
      rw [hb1]
      cases b1
      · skip
        refine wr U ((rm U).to (v' := (.bool false)) rfl) rfl rfl ?_
        refine wl_pass U rfl rfl ?_
        refine wl_pass U rfl rfl ?_
        refine wl_pass U rfl rfl ?_
        refine wl_pass U rfl rfl ?_
        refine wl_pass U rfl rfl ?_
        refine wl_pass U rfl rfl ?_
        refine wl_pass U rfl rfl ?_
        refine wl_pass U rfl rfl ?_
        refine wr U ((rd_pick U rfl).to (v' := (.bool false)) rfl) rfl rfl ?_
        refine wz U ?_
        repeat (first|refine nt ?_|refine nq ?_|refine wq U ?_)
        refine wcd U (t := false) rfl (fun h => nomatch h) fun _ => ?_
        refine wsk U ?_
        repeat (first|refine nt ?_|refine nq ?_)
        repeat (first|refine nt ?_|refine nq ?_|refine wq U ?_)
        refine wg U ?_
        refine wr U ((rm U).to (v' := (.int .i64 ((k : Nat) : Int))) rfl) rfl rfl ?_
        refine wr U (rd_add U rfl rfl (by omega) (by omega)) rfl rfl ?_
        refine wr U ((ra U).to (v' := (.int .i64 (((k : Nat) : Int) + 1))) rfl) rfl rfl ?_
        refine wz U ?_
        repeat (first|refine nt ?_|refine nq ?_)
        exact ⟨E.length - (k + 1), by omega, k + 1, by omega, rfl, ⟨rfl, rfl, rfl, trivial⟩, (fun e he => by rw [List.take_succ_eq_append_getElem hk1, List.mem_append, List.mem_singleton] at he; rcases he with he | rfl; exact hno e he; rintro ⟨h1, h2⟩; exact of_decide_eq_false hb1 ((hmem _).2 h1)), rfl, rfl⟩
      · skip
        refine wr U ((rm U).to (v' := (.bool true)) rfl) rfl rfl ?_
        refine wr U ((rm U).to (v' := (.slice xp ((ints xs).length) xcap)) rfl) rfl rfl ?_
        refine wr U ((rfa U fb_24_1 rfl).to (v' := (.pointer (some ⟨N, 1, none⟩))) rfl) rfl rfl ?_
        refine wr U (rl1 U el_22 rfl (v := (.slice (some ⟨eb, eo, none⟩) E.length cap)) (by rw [rrw U (by omega) hbx]; rfl)) rfl rfl ?_
        refine wr U ((rm U).to (v' := (.int .i64 ((k : Nat) : Int))) rfl) rfl rfl ?_
        refine wr U (rd_idxN U (j := k) sl_22 rfl rfl (by omega)) rfl rfl ?_
        refine wr U ((rfa U fb_43_1 rfl).to (v' := (.pointer (some ⟨eb, eo + k * 3 + 1, none⟩))) rfl) rfl rfl ?_
        refine wr U (rl1 U el_3 rfl (v := (.int .i64 ((E[k].2.1 : Nat) : Int))) (hv2.e1 U hk1)) rfl rfl ?_
        refine wl_op U rfl rfl (op_call U Tryz.f16 rfl rfl pf_16 (by kernel_rfl) (by kernel_rfl) ((s16 U xs ((E[k].2.1 : Nat) : Int) _ (by omega) R M hxr).mono U ?_))
        rintro _ _ _ ⟨rfl, rfl, rfl⟩
        obtain ⟨b2, hb2⟩ : ∃ b, decide (((E[k].2.1 : Nat) : Int) ∈ xs) = b := ⟨_, rfl⟩
        rw [hb2]
        cases b2
        · skip
          refine wr U ((rd_pick U rfl).to (v' := (.bool false)) rfl) rfl rfl ?_
          refine wz U ?_
          repeat (first|refine nt ?_|refine nq ?_|refine wq U ?_)
          refine wcd U (t := false) rfl (fun h => nomatch h) fun _ => ?_
          refine wsk U ?_
          repeat (first|refine nt ?_|refine nq ?_)
          repeat (first|refine nt ?_|refine nq ?_|refine wq U ?_)
          refine wg U ?_
          refine wr U ((rm U).to (v' := (.int .i64 ((k : Nat) : Int))) rfl) rfl rfl ?_
          refine wr U (rd_add U rfl rfl (by omega) (by omega)) rfl rfl ?_
          refine wr U ((ra U).to (v' := (.int .i64 (((k : Nat) : Int) + 1))) rfl) rfl rfl ?_
          refine wz U ?_
          repeat (first|refine nt ?_|refine nq ?_)
          exact ⟨E.length - (k + 1), by omega, k + 1, by omega, rfl, ⟨rfl, rfl, rfl, trivial⟩, (fun e he => by rw [List.take_succ_eq_append_getElem hk1, List.mem_append, List.mem_singleton] at he; rcases he with he | rfl; exact hno e he; rintro ⟨h1, h2⟩; exact of_decide_eq_false hb2 ((hmem _).2 h2)), rfl, rfl⟩
        · skip
          refine wr U ((rd_pick U rfl).to (v' := (.bool true)) rfl) rfl rfl ?_
          refine wz U ?_
          repeat (first|refine nt ?_|refine nq ?_|refine wq U ?_)
          refine wcd U (t := true) rfl (fun _ => ?_) (fun h => nomatch h)
          repeat (first|refine nt ?_|refine nq ?_|refine wq U ?_)
          refine wg U ?_
          refine wr U ((ra U).to (v' := (.int .i64 13)) rfl) rfl rfl ?_
          refine wz U ?_
          refine wc_ret U ?_
          repeat (first|refine ret1 ?_|refine ret2 ?_)
          exact end1 U (.inl rfl) rfl (v := (.int .i64 13)) rfl ⟨⟨_, rfl, ⟨fun h => absurd h (by decide), fun ⟨is, e, hI⟩ => by have hh := castL_inj (his.symm.trans e); subst hh; exact absurd ⟨E[k], List.getElem_mem hk1, (hmem _).1 (of_decide_eq_true hb1), (hmem _).1 (of_decide_eq_true hb2)⟩ (ind_edges.1 hI.2.2)⟩⟩, hs, by omega⟩
    · replace hck2 := of_decide_eq_false hck2
      refine wc_exit U ?_
      repeat (first|refine xt ?_|refine xps (by decide) ?_)
      refine xbl ?_
      repeat (first|refine nt ?_|refine nq ?_)
      rw [List.take_of_length_le (by omega)] at hno
      repeat (first|refine nt ?_|refine nq ?_|refine wq U ?_)
      refine wg U ?_
      refine wr U ((ra U).to (v' := (.int .i64 0)) rfl) rfl rfl ?_
      refine wz U ?_
      refine wc_ret U ?_
      repeat (first|refine ret1 ?_|refine ret2 ?_)
      exact end1 U (.inl rfl) rfl (v := (.int .i64 0)) rfl ⟨⟨_, rfl, ⟨fun _ => ⟨is, his, hsrt, hlt, ind_edges.2 fun ⟨e, he, h1, h2⟩ => hno e he ⟨h1, h2⟩⟩, fun _ => rfl⟩⟩, hs, by omega⟩
theorem s12 (n : Int) (E : List Ed) (sv : Value) (H : Hp) (N : Nat) (hv : RdS U H sv 3 (ecs E)) : Spec U 12 #[(.agg #[(.int .i64 n), sv]), (.int .i64 24)] H N (fun v H' N' => (∃ b : Bool, v = .bool b ∧ (b = true → n ≤ 24 ∧ E.length ≤ 96)) ∧ Sub H H' ∧ N ≤ N') := by
  obtain ⟨p, cap, rfl, hc, hp⟩ := hv.iedges U
  refine spa U pf_12 (m := 17) rfl rfl (by simp) fun hBN hlt => ?_
  obtain ⟨J, hJ⟩ := Has.ex (T := argsT #[(.agg #[(.int .i64 n), (.slice p E.length cap)]), (.int .i64 24)]) (l := [(0, (.agg #[(.int .i64 n), (.slice p E.length cap)])), (1, (.int .i64 24))]) ⟨rfl, rfl, trivial⟩
  rw [hJ]; clear hJ
  repeat (first|refine nt ?_|refine nq ?_|refine wq U ?_)
  refine wg U ?_
  refine wl_op U rfl rfl (op_box U rfl rfl ?_)
  refine wr U ((ra U).to (v' := (.bool false)) rfl) rfl rfl ?_
  refine wz U ?_
  repeat (first|refine nt ?_|refine nq ?_)
  refine wc_gen U (fun R => R N = some (.row 24 0 [(.int .i64 n), (.slice p E.length cap)] 2) ∧ Sub _ R) ⟨(by first|(rw [hsy]; done) | (rw [hsy]; rfl)), ((Sub.refl _).hset (fresh hlt (by omega)))⟩ ?_
  rintro H1 ⟨hx_4, hs1⟩ hBNH1 hltH1
  repeat (first|refine nt ?_|refine nq ?_|refine wq U ?_)
  refine wg U ?_
  refine wr U ((rfa U fb_24_0 rfl).to (v' := (.pointer (some ⟨N, 0, none⟩))) rfl) rfl rfl ?_
  refine wr U (rl1 U el_3 rfl (v := (.int .i64 n)) (by rw [rrw U (by omega) hx_4]; rfl)) rfl rfl ?_
  refine wr U ((rm U).to (v' := (.int .i64 24)) rfl) rfl rfl ?_
  by_cases h1_3 : n ≤ 24
  · skip
    refine wr U ((rd_leq U rfl rfl).to (v' := (.bool true)) (congrArg Value.bool (decide_eq_true h1_3))) rfl rfl ?_
    refine wr U ((rm U).to (v' := (.bool true)) rfl) rfl rfl ?_
    refine wr U ((rfa U fb_24_1 rfl).to (v' := (.pointer (some ⟨N, 1, none⟩))) rfl) rfl rfl ?_
    refine wr U (rl1 U el_22 rfl (v := (.slice p E.length cap)) (by rw [rrw U (by omega) hx_4]; rfl)) rfl rfl ?_
    refine wr U ((rd_len' U sl_22 rfl).to (v' := (.int .i64 ((E.length : Nat) : Int))) rfl) rfl rfl ?_
    refine wr U ((rm U).to (v' := (.int .i64 24)) rfl) rfl rfl ?_
    refine wr U (rd_mul U rfl rfl (by omega) (by omega)) rfl rfl ?_
    by_cases h1_10 : ((E.length : Nat) : Int) ≤ 4 * 24
    · skip
      refine wr U ((rd_leq U rfl rfl).to (v' := (.bool true)) (congrArg Value.bool (decide_eq_true h1_10))) rfl rfl ?_
      refine wr U ((rd_pick U rfl).to (v' := (.bool true)) rfl) rfl rfl ?_
      refine wr U ((ra U).to (v' := (.bool true)) rfl) rfl rfl ?_
      refine wz U ?_
      refine wc_ret U ?_
      repeat (first|refine ret1 ?_|refine ret2 ?_)
      exact end1 U (.inl rfl) rfl (v := (.bool true)) rfl ⟨⟨_, rfl, fun h => by omega⟩, hs1, by omega⟩
    · skip
      refine wr U ((rd_leq U rfl rfl).to (v' := (.bool false)) (congrArg Value.bool (decide_eq_false h1_10))) rfl rfl ?_
      refine wr U ((rd_pick U rfl).to (v' := (.bool false)) rfl) rfl rfl ?_
      refine wr U ((ra U).to (v' := (.bool false)) rfl) rfl rfl ?_
      refine wz U ?_
      refine wc_ret U ?_
      repeat (first|refine ret1 ?_|refine ret2 ?_)
      exact end1 U (.inl rfl) rfl (v := (.bool false)) rfl ⟨⟨_, rfl, fun h => nomatch h⟩, hs1, by omega⟩
  · skip
    refine wr U ((rd_leq U rfl rfl).to (v' := (.bool false)) (congrArg Value.bool (decide_eq_false h1_3))) rfl rfl ?_
    refine wr U ((rm U).to (v' := (.bool false)) rfl) rfl rfl ?_
    refine wl_pass U rfl rfl ?_
    refine wl_pass U rfl rfl ?_
    refine wl_pass U rfl rfl ?_
    refine wl_pass U rfl rfl ?_
    refine wl_pass U rfl rfl ?_
    refine wl_pass U rfl rfl ?_
    refine wr U ((rd_pick U rfl).to (v' := (.bool false)) rfl) rfl rfl ?_
    refine wr U ((ra U).to (v' := (.bool false)) rfl) rfl rfl ?_
    refine wz U ?_
    refine wc_ret U ?_
    repeat (first|refine ret1 ?_|refine ret2 ?_)
    exact end1 U (.inl rfl) rfl (v := (.bool false)) rfl ⟨⟨_, rfl, fun h => nomatch h⟩, hs1, by omega⟩
theorem s5 (n : Int) (E : List Ed) (sv rv : Value) (rss : List (List Int)) (hbl : ∀ xs ∈ rss, xs.length ≤ 4611686018427387904) (hbr : rss.length ≤ 4611686018427387904) (H : Hp) (N : Nat) (hv : RdS U H sv 3 (ecs E)) (hr : Rd2I U H rv rss) : Spec U 5 #[(.agg #[(.int .i64 n), sv]), rv, (.int .i64 24)] H N (fun v H' N' => (∃ b : Bool, v = .bool b ∧ (b = true → n ≤ 24 ∧ E.length ≤ 96 ∧ ∀ xs ∈ rss, xs.length ≤ 1000)) ∧ Sub H H' ∧ N ≤ N') := by
  obtain ⟨vs, hvs, hvl, hrow⟩ := hr
  obtain ⟨rp, rcap, rfl, hrc, hrp⟩ := hvs.cells1 U
  refine spa U pf_5 (m := 40) rfl rfl (by simp) fun hBN hlt => ?_
  obtain ⟨J, hJ⟩ := Has.ex (T := argsT #[(.agg #[(.int .i64 n), sv]), (.slice rp vs.length rcap), (.int .i64 24)]) (l := [(0, (.agg #[(.int .i64 n), sv])), (1, (.slice rp vs.length rcap)), (2, (.int .i64 24))]) ⟨rfl, rfl, rfl, trivial⟩
  rw [hJ]; clear hJ
  repeat (first|refine nt ?_|refine nq ?_|refine wq U ?_)
  refine wg U ?_
  refine wl_op U rfl rfl (op_box U rfl rfl ?_)
  refine wr U ((ra U).to (v' := (.bool false)) rfl) rfl rfl ?_
  refine wz U ?_
  repeat (first|refine nt ?_|refine nq ?_)
  refine wc_gen U (fun R => R N = some (.row 24 0 [(.int .i64 n), sv] 2) ∧ Sub _ R) ⟨(by first|(rw [hsy]; done) | (rw [hsy]; rfl)), ((Sub.refl _).hset (fresh hlt (by omega)))⟩ ?_
  rintro R ⟨hx_5, hs⟩ hBNR hltR
  repeat (first|refine nt ?_|refine nq ?_|refine wq U ?_)
  refine wg U ?_
  refine wr U ((ra U).to (v' := (.int .i64 0)) rfl) rfl rfl ?_
  refine wz U ?_
  repeat (first|refine nt ?_|refine nq ?_|refine wq U ?_)
  refine wg U ?_
  refine wr U ((ra U).to (v' := (.int .i64 0)) rfl) rfl rfl ?_
  refine wz U ?_
  repeat (first|refine nt ?_|refine nq ?_|refine wq U ?_)
  refine wc_block U ?_
  refine wc_loop U (fun q T H' N' => ∃ (i S : Nat), i ≤ rss.length ∧ q = rss.length - i ∧ Has T [(1, (.slice rp vs.length rcap)), (2, (.int .i64 24)), (3, (.pointer (some ⟨N, 0, none⟩))), (7, (.int .i64 ((S : Nat) : Int))), (8, (.int .i64 ((i : Nat) : Int)))] ∧ (∀ xs ∈ rss.take i, xs.length ≤ S) ∧ S ≤ 4611686018427387904 + 1000 ∧ R = H' ∧ N + 1 = N') rss.length ⟨0, 0, Nat.zero_le _, rfl, ⟨rfl, rfl, rfl, rfl, rfl, trivial⟩, by simp, by omega, rfl, rfl⟩ ?_
  rintro q T _ _ ⟨i, S, hi, rfl, hT, hall, hS, rfl, rfl⟩
  obtain ⟨J, rfl⟩ := hT.ex
  repeat (first|refine nt ?_|refine nq ?_|refine wq U ?_)
  refine wg U ?_
  refine wr U ((rm U).to (v' := (.int .i64 ((i : Nat) : Int))) rfl) rfl rfl ?_
  refine wr U ((rm U).to (v' := (.slice rp vs.length rcap)) rfl) rfl rfl ?_
  refine wr U ((rd_len' U sl_25 rfl).to (v' := (.int .i64 ((vs.length : Nat) : Int))) rfl) rfl rfl ?_
  by_cases h3_3 : ((i : Nat) : Int) < ((vs.length : Nat) : Int)
  · skip
    refine wr U ((rd_lss U rfl rfl).to (v' := (.bool true)) (congrArg Value.bool (decide_eq_true h3_3))) rfl rfl ?_
    refine wr U ((rm U).to (v' := (.bool true)) rfl) rfl rfl ?_
    refine wr U ((rm U).to (v' := (.int .i64 ((S : Nat) : Int))) rfl) rfl rfl ?_
    by_cases h3_6 : ((S : Nat) : Int) ≤ 1000
    · skip
      refine wr U ((rd_leq U rfl rfl).to (v' := (.bool true)) (congrArg Value.bool (decide_eq_true h3_6))) rfl rfl ?_
      refine wr U ((rd_pick U rfl).to (v' := (.bool true)) rfl) rfl rfl ?_
      refine wz U ?_
      repeat (first|refine nt ?_|refine nq ?_|refine wq U ?_)
      refine wcd U (t := true) rfl (fun _ => ?_) (fun h => nomatch h)
      refine wsk U ?_
      repeat (first|refine nt ?_|refine nq ?_)
      have hi1 : i < rss.length := by omega
      obtain ⟨rb, ro, rfl⟩ := hrp (by omega)
      repeat (first|refine nt ?_|refine nq ?_|refine wq U ?_)
      refine wc_block U ?_
      obtain ⟨xu, hxu⟩ := get_ex (l := vs) (i := i) (by omega)
      obtain ⟨xs, hxs⟩ := get_ex (l := rss) (i := i) (by omega)
      have hxr := hrow i xu xs hxu hxs
      have hxl := hbl xs (List.mem_of_getElem? hxs)
      obtain ⟨xp, xcap, rfl, hxc, hxp⟩ := hxr.cells1 U
      have hil := ints_length xs
      repeat (first|refine nt ?_|refine nq ?_|refine wq U ?_)
      refine wg U ?_
      refine wr U ((rm U).to (v' := (.int .i64 ((S : Nat) : Int))) rfl) rfl rfl ?_
      refine wr U ((rm U).to (v' := (.slice (some ⟨rb, ro, none⟩) vs.length rcap)) rfl) rfl rfl ?_
      refine wr U ((rm U).to (v' := (.int .i64 ((i : Nat) : Int))) rfl) rfl rfl ?_
      refine wr U (rd_idx1 U (j := i) sl_25 rfl rfl (by omega)) rfl rfl ?_
      refine wr U (rl1 U el_26 rfl (v := (.slice xp ((ints xs).length) xcap)) ((hvs.sub U hs).get U hxu)) rfl rfl ?_
      refine wr U ((rd_len' U sl_26 rfl).to (v' := (.int .i64 (((ints xs).length : Nat) : Int))) rfl) rfl rfl ?_
      refine wr U ((rd_add U rfl rfl (by omega) (by omega)).to (v' := (.int .i64 ((S + xs.length : Nat) : Int))) (congrArg (Value.int .i64) (by omega))) rfl rfl ?_
      refine wr U ((ra U).to (v' := (.int .i64 ((S + xs.length : Nat) : Int))) rfl) rfl rfl ?_
      refine wz U ?_
      repeat (first|refine nt ?_|refine nq ?_)
      repeat (first|refine nt ?_|refine nq ?_|refine wq U ?_)
      refine wg U ?_
      refine wr U ((rm U).to (v' := (.int .i64 ((i : Nat) : Int))) rfl) rfl rfl ?_
      refine wr U (rd_add U rfl rfl (by omega) (by omega)) rfl rfl ?_
      refine wr U ((ra U).to (v' := (.int .i64 (((i : Nat) : Int) + 1))) rfl) rfl rfl ?_
      refine wz U ?_
      repeat (first|refine nt ?_|refine nq ?_)
      exact ⟨rss.length - (i + 1), by omega, i + 1, S + xs.length, by omega, rfl, ⟨rfl, rfl, rfl, rfl, rfl, trivial⟩, (fun ys hy => by obtain ⟨h1, rfl⟩ := List.getElem?_eq_some_iff.1 hxs; rw [List.take_succ_eq_append_getElem h1, List.mem_append, List.mem_singleton] at hy; rcases hy with hy | rfl; have := hall ys hy; omega; omega), by omega, rfl, rfl⟩
    · skip
      refine wr U ((rd_leq U rfl rfl).to (v' := (.bool false)) (congrArg Value.bool (decide_eq_false h3_6))) rfl rfl ?_
      refine wr U ((rd_pick U rfl).to (v' := (.bool false)) rfl) rfl rfl ?_
      refine wz U ?_
      repeat (first|refine nt ?_|refine nq ?_|refine wq U ?_)
      refine wcd U (t := false) rfl (fun h => nomatch h) fun _ => ?_
      refine wc_exit U ?_
      repeat (first|refine xt ?_|refine xps (by decide) ?_)
      refine xbl ?_
      repeat (first|refine nt ?_|refine nq ?_)
      have hfin : S ≤ 1000 → ∀ xs ∈ rss, xs.length ≤ 1000 := by
        intro hS2
        have e : i = rss.length := by omega
        rw [e, List.take_length] at hall
        exact fun xs hx => Nat.le_trans (hall xs hx) hS2
      repeat (first|refine nt ?_|refine nq ?_|refine wq U ?_)
      refine wg U ?_
      refine wr U (rd_load2 U el_24 rfl (v0 := (.int .i64 n)) (v1 := sv)  (by rw [rrw U (by omega) hx_5]; rfl) (by rw [rrw U (by omega) hx_5]; rfl)) rfl rfl ?_
      refine wr U ((rm U).to (v' := (.int .i64 24)) rfl) rfl rfl ?_
      refine wl_op U rfl rfl (op_call U Tryz.f12 rfl rfl pf_12 (by kernel_rfl) (by kernel_rfl) ((s12 U n E _ _ _ (hv.sub U hs)).mono U ?_))
      rintro _ H2 N2 ⟨⟨b, rfl, hb⟩, hs2, hN2⟩
      cases b
      · skip
        refine wr U ((rm U).to (v' := (.bool false)) rfl) rfl rfl ?_
        refine wl_pass U rfl rfl ?_
        refine wl_pass U rfl rfl ?_
        refine wl_pass U rfl rfl ?_
        refine wl_pass U rfl rfl ?_
        refine wl_pass U rfl rfl ?_
        refine wr U ((rd_pick U rfl).to (v' := (.bool false)) rfl) rfl rfl ?_
        refine wr U ((rm U).to (v' := (.bool false)) rfl) rfl rfl ?_
        refine wl_pass U rfl rfl ?_
        refine wl_pass U rfl rfl ?_
        refine wr U ((rd_pick U rfl).to (v' := (.bool false)) rfl) rfl rfl ?_
        refine wr U ((ra U).to (v' := (.bool false)) rfl) rfl rfl ?_
        refine wz U ?_
        refine wc_ret U ?_
        repeat (first|refine ret1 ?_|refine ret2 ?_)
        exact end1 U (.inl rfl) rfl (v := (.bool false)) rfl ⟨⟨_, rfl, fun h => nomatch h⟩, hs.trans hs2, by omega⟩
      · skip
        refine wr U ((rm U).to (v' := (.bool true)) rfl) rfl rfl ?_
        refine wr U ((rm U).to (v' := (.slice rp vs.length rcap)) rfl) rfl rfl ?_
        refine wr U ((rd_len' U sl_25 rfl).to (v' := (.int .i64 ((vs.length : Nat) : Int))) rfl) rfl rfl ?_
        refine wr U ((rm U).to (v' := (.int .i64 24)) rfl) rfl rfl ?_
        refine wr U (rd_mul U rfl rfl (by omega) (by omega)) rfl rfl ?_
        by_cases h6_8 : ((vs.length : Nat) : Int) ≤ 2 * 24
        · skip
          refine wr U ((rd_leq U rfl rfl).to (v' := (.bool true)) (congrArg Value.bool (decide_eq_true h6_8))) rfl rfl ?_
          refine wr U ((rd_pick U rfl).to (v' := (.bool true)) rfl) rfl rfl ?_
          refine wr U ((rm U).to (v' := (.bool true)) rfl) rfl rfl ?_
          refine wr U ((rm U).to (v' := (.int .i64 ((S : Nat) : Int))) rfl) rfl rfl ?_
          by_cases h6_12 : ((S : Nat) : Int) ≤ 1000
          · skip
            refine wr U ((rd_leq U rfl rfl).to (v' := (.bool true)) (congrArg Value.bool (decide_eq_true h6_12))) rfl rfl ?_
            refine wr U ((rd_pick U rfl).to (v' := (.bool true)) rfl) rfl rfl ?_
            refine wr U ((ra U).to (v' := (.bool true)) rfl) rfl rfl ?_
            refine wz U ?_
            refine wc_ret U ?_
            repeat (first|refine ret1 ?_|refine ret2 ?_)
            exact end1 U (.inl rfl) rfl (v := (.bool true)) rfl ⟨⟨_, rfl, fun h => ⟨(hb rfl).1, (hb rfl).2, hfin (by omega)⟩⟩, hs.trans hs2, by omega⟩
          · skip
            refine wr U ((rd_leq U rfl rfl).to (v' := (.bool false)) (congrArg Value.bool (decide_eq_false h6_12))) rfl rfl ?_
            refine wr U ((rd_pick U rfl).to (v' := (.bool false)) rfl) rfl rfl ?_
            refine wr U ((ra U).to (v' := (.bool false)) rfl) rfl rfl ?_
            refine wz U ?_
            refine wc_ret U ?_
            repeat (first|refine ret1 ?_|refine ret2 ?_)
            exact end1 U (.inl rfl) rfl (v := (.bool false)) rfl ⟨⟨_, rfl, fun h => nomatch h⟩, hs.trans hs2, by omega⟩
        · skip
          refine wr U ((rd_leq U rfl rfl).to (v' := (.bool false)) (congrArg Value.bool (decide_eq_false h6_8))) rfl rfl ?_
          refine wr U ((rd_pick U rfl).to (v' := (.bool false)) rfl) rfl rfl ?_
          refine wr U ((rm U).to (v' := (.bool false)) rfl) rfl rfl ?_
          refine wl_pass U rfl rfl ?_
          refine wl_pass U rfl rfl ?_
          refine wr U ((rd_pick U rfl).to (v' := (.bool false)) rfl) rfl rfl ?_
          refine wr U ((ra U).to (v' := (.bool false)) rfl) rfl rfl ?_
          refine wz U ?_
          refine wc_ret U ?_
          repeat (first|refine ret1 ?_|refine ret2 ?_)
          exact end1 U (.inl rfl) rfl (v := (.bool false)) rfl ⟨⟨_, rfl, fun h => nomatch h⟩, hs.trans hs2, by omega⟩
  · skip
    refine wr U ((rd_lss U rfl rfl).to (v' := (.bool false)) (congrArg Value.bool (decide_eq_false h3_3))) rfl rfl ?_
    refine wr U ((rm U).to (v' := (.bool false)) rfl) rfl rfl ?_
    refine wl_pass U rfl rfl ?_
    refine wl_pass U rfl rfl ?_
    refine wr U ((rd_pick U rfl).to (v' := (.bool false)) rfl) rfl rfl ?_
    refine wz U ?_
    repeat (first|refine nt ?_|refine nq ?_|refine wq U ?_)
    refine wcd U (t := false) rfl (fun h => nomatch h) fun _ => ?_
    refine wc_exit U ?_
    repeat (first|refine xt ?_|refine xps (by decide) ?_)
    refine xbl ?_
    repeat (first|refine nt ?_|refine nq ?_)
    have hfin : S ≤ 1000 → ∀ xs ∈ rss, xs.length ≤ 1000 := by
      intro hS2
      have e : i = rss.length := by omega
      rw [e, List.take_length] at hall
      exact fun xs hx => Nat.le_trans (hall xs hx) hS2
    repeat (first|refine nt ?_|refine nq ?_|refine wq U ?_)
    refine wg U ?_
    refine wr U (rd_load2 U el_24 rfl (v0 := (.int .i64 n)) (v1 := sv)  (by rw [rrw U (by omega) hx_5]; rfl) (by rw [rrw U (by omega) hx_5]; rfl)) rfl rfl ?_
    refine wr U ((rm U).to (v' := (.int .i64 24)) rfl) rfl rfl ?_
    refine wl_op U rfl rfl (op_call U Tryz.f12 rfl rfl pf_12 (by kernel_rfl) (by kernel_rfl) ((s12 U n E _ _ _ (hv.sub U hs)).mono U ?_))
    rintro _ H2 N2 ⟨⟨b, rfl, hb⟩, hs2, hN2⟩
    cases b
    · skip
      refine wr U ((rm U).to (v' := (.bool false)) rfl) rfl rfl ?_
      refine wl_pass U rfl rfl ?_
      refine wl_pass U rfl rfl ?_
      refine wl_pass U rfl rfl ?_
      refine wl_pass U rfl rfl ?_
      refine wl_pass U rfl rfl ?_
      refine wr U ((rd_pick U rfl).to (v' := (.bool false)) rfl) rfl rfl ?_
      refine wr U ((rm U).to (v' := (.bool false)) rfl) rfl rfl ?_
      refine wl_pass U rfl rfl ?_
      refine wl_pass U rfl rfl ?_
      refine wr U ((rd_pick U rfl).to (v' := (.bool false)) rfl) rfl rfl ?_
      refine wr U ((ra U).to (v' := (.bool false)) rfl) rfl rfl ?_
      refine wz U ?_
      refine wc_ret U ?_
      repeat (first|refine ret1 ?_|refine ret2 ?_)
      exact end1 U (.inl rfl) rfl (v := (.bool false)) rfl ⟨⟨_, rfl, fun h => nomatch h⟩, hs.trans hs2, by omega⟩
    · skip
      refine wr U ((rm U).to (v' := (.bool true)) rfl) rfl rfl ?_
      refine wr U ((rm U).to (v' := (.slice rp vs.length rcap)) rfl) rfl rfl ?_
      refine wr U ((rd_len' U sl_25 rfl).to (v' := (.int .i64 ((vs.length : Nat) : Int))) rfl) rfl rfl ?_
      refine wr U ((rm U).to (v' := (.int .i64 24)) rfl) rfl rfl ?_
      refine wr U (rd_mul U rfl rfl (by omega) (by omega)) rfl rfl ?_
      by_cases h6_8 : ((vs.length : Nat) : Int) ≤ 2 * 24
      · skip
        refine wr U ((rd_leq U rfl rfl).to (v' := (.bool true)) (congrArg Value.bool (decide_eq_true h6_8))) rfl rfl ?_
        refine wr U ((rd_pick U rfl).to (v' := (.bool true)) rfl) rfl rfl ?_
        refine wr U ((rm U).to (v' := (.bool true)) rfl) rfl rfl ?_
        refine wr U ((rm U).to (v' := (.int .i64 ((S : Nat) : Int))) rfl) rfl rfl ?_
        by_cases h6_12 : ((S : Nat) : Int) ≤ 1000
        · skip
          refine wr U ((rd_leq U rfl rfl).to (v' := (.bool true)) (congrArg Value.bool (decide_eq_true h6_12))) rfl rfl ?_
          refine wr U ((rd_pick U rfl).to (v' := (.bool true)) rfl) rfl rfl ?_
          refine wr U ((ra U).to (v' := (.bool true)) rfl) rfl rfl ?_
          refine wz U ?_
          refine wc_ret U ?_
          repeat (first|refine ret1 ?_|refine ret2 ?_)
          exact end1 U (.inl rfl) rfl (v := (.bool true)) rfl ⟨⟨_, rfl, fun h => ⟨(hb rfl).1, (hb rfl).2, hfin (by omega)⟩⟩, hs.trans hs2, by omega⟩
        · skip
          refine wr U ((rd_leq U rfl rfl).to (v' := (.bool false)) (congrArg Value.bool (decide_eq_false h6_12))) rfl rfl ?_
          refine wr U ((rd_pick U rfl).to (v' := (.bool false)) rfl) rfl rfl ?_
          refine wr U ((ra U).to (v' := (.bool false)) rfl) rfl rfl ?_
          refine wz U ?_
          refine wc_ret U ?_
          repeat (first|refine ret1 ?_|refine ret2 ?_)
          exact end1 U (.inl rfl) rfl (v := (.bool false)) rfl ⟨⟨_, rfl, fun h => nomatch h⟩, hs.trans hs2, by omega⟩
      · skip
        refine wr U ((rd_leq U rfl rfl).to (v' := (.bool false)) (congrArg Value.bool (decide_eq_false h6_8))) rfl rfl ?_
        refine wr U ((rd_pick U rfl).to (v' := (.bool false)) rfl) rfl rfl ?_
        refine wr U ((rm U).to (v' := (.bool false)) rfl) rfl rfl ?_
        refine wl_pass U rfl rfl ?_
        refine wl_pass U rfl rfl ?_
        refine wr U ((rd_pick U rfl).to (v' := (.bool false)) rfl) rfl rfl ?_
        refine wr U ((ra U).to (v' := (.bool false)) rfl) rfl rfl ?_
        refine wz U ?_
        refine wc_ret U ?_
        repeat (first|refine ret1 ?_|refine ret2 ?_)
        exact end1 U (.inl rfl) rfl (v := (.bool false)) rfl ⟨⟨_, rfl, fun h => nomatch h⟩, hs.trans hs2, by omega⟩
end Go.Proofs.YtdmodppoellbkaaGreat
namespace Go.Proofs.YtdmodppoellbkaaGreat
open Go Go.RowKit
variable (U : Cx)
theorem exists_max (P : Nat → Prop) : ∀ b, P 0 → (∀ m, P m → m ≤ b) → ∃ m, P m ∧ ∀ m', P m' → m' ≤ m
  | 0, h0, hb => ⟨0, h0, hb⟩
  | b + 1, h0, hb => by
    by_cases h : P (b + 1)
    · exact ⟨b + 1, h, hb⟩
    · exact exists_max P b h0 fun m hm => by
        have := hb m hm
        have hne : m ≠ b + 1 := fun e => h (e ▸ hm)
        omega
theorem best_ex {ad : Nat → Nat → Prop} {p : Nat → Prop} {n : Nat} (hp : ∀ v, p v → v < n) : ∃ os, Best ad p os := by
  obtain ⟨m, ⟨J, hJ, rfl⟩, hmax⟩ := exists_max (fun m => ∃ J : List Nat, (J.Nodup ∧ (∀ v ∈ J, p v) ∧ ∀ u ∈ J, ∀ v ∈ J, ¬ ad u v) ∧ J.length = m) n ⟨[], ⟨by simp, by simp, by simp⟩, rfl⟩ (fun m ⟨J, hJ, e⟩ => by rw [← e]; exact nodup_len n J hJ.1 fun v hv => hp v (hJ.2.1 v hv))
  exact ⟨J, hJ.1, hJ.2.1, hJ.2.2, fun K h1 h2 h3 => hmax _ ⟨K, ⟨h1, h2, h3⟩, rfl⟩⟩
def E4 : List NE := [(0, 1, 0), (1, 2, 0), (2, 3, 0)]
def R4 : List (List Nat) := [[1], [0, 2], [1, 3], [2]]
theorem adj4 (u v : Nat) : adj E4 u v ↔ (u = 0 ∧ v = 1) ∨ (u = 1 ∧ v = 0) ∨ (u = 1 ∧ v = 2) ∨ (u = 2 ∧ v = 1) ∨ (u = 2 ∧ v = 3) ∨ (u = 3 ∧ v = 2) := by
  unfold adj E4
  constructor
  · rintro ⟨e, he, h⟩
    simp only [List.mem_cons, List.not_mem_nil, or_false] at he
    rcases he with rfl | rfl | rfl <;> simp only at h <;> omega
  · rintro (⟨rfl, rfl⟩ | ⟨rfl, rfl⟩ | ⟨rfl, rfl⟩ | ⟨rfl, rfl⟩ | ⟨rfl, rfl⟩ | ⟨rfl, rfl⟩)
    · exact ⟨(0, 1, 0), by simp, by simp⟩
    · exact ⟨(0, 1, 0), by simp, by simp⟩
    · exact ⟨(1, 2, 0), by simp, by simp⟩
    · exact ⟨(1, 2, 0), by simp, by simp⟩
    · exact ⟨(2, 3, 0), by simp, by simp⟩
    · exact ⟨(2, 3, 0), by simp, by simp⟩
theorem gok4 : GOk 4 E4 := ⟨by decide, by decide, by decide, by unfold E4 ltE; decide⟩
theorem rot4 : Rot 4 E4 R4 := by
  refine ⟨rfl, fun v => ?_, fun v u => ?_⟩
  · match v with
    | 0 => decide
    | 1 => decide
    | 2 => decide
    | 3 => decide
    | v + 4 => exact List.nodup_nil
  · rw [adj4]
    match v with
    | 0 => simp [R4]
    | 1 => simp [R4]
    | 2 => simp [R4]
    | 3 => simp [R4]
    | v + 4 => simp [R4]
theorem comps4 : Comps 4 E4 [[0, 1, 2, 3]] := by
  have c1 : Conn E4 0 1 := Conn.step .refl ((adj4 0 1).2 (by omega))
  have c2 : Conn E4 0 2 := c1.step ((adj4 1 2).2 (by omega))
  have c3 : Conn E4 0 3 := c2.step ((adj4 2 3).2 (by omega))
  refine ⟨fun c hc => ?_, by simp, fun x hx => ⟨[0, 1, 2, 3], by simp, by simp; omega⟩, fun c hc x hx => ?_⟩
  · simp only [List.mem_singleton] at hc; subst hc
    refine ⟨by decide, 0, by simp, fun x => ⟨fun hx => ?_, fun hx => ?_⟩⟩
    · simp only [List.mem_cons, List.not_mem_nil, or_false] at hx
      rcases hx with rfl | rfl | rfl | rfl
      · exact .refl
      · exact c1
      · exact c2
      · exact c3
    · have := conn_lt gok4 (by decide) hx
      simp; omega
  · simp only [List.mem_singleton] at hc; subst hc
    simp at hx; omega
theorem faces4 : facesL 4 E4 R4 = [[(0, 1), (1, 2), (2, 3), (3, 2), (2, 1), (1, 0)]] := by decide
theorem plane4 : PlaneOk 4 E4 R4 := ⟨rot4, fun cs hcs c hc => by
  have := Comps.same hcs comps4 hc
  simp only [List.mem_singleton] at this; subst this
  rw [faces4]; decide⟩
theorem near4 : nearL 4 E4 = R4 := by
  unfold nearL
  rw [show nearAcc 4 E4 = R4 by decide]
  have h : ∀ l : List Nat, l.Pairwise (fun a b => decide (a ≤ b) = true) → sortN l = l := fun l hl => List.mergeSort_of_pairwise hl
  show [sortN [1], sortN [0, 2], sortN [1, 3], sortN [2]] = R4
  rw [h [1] (by decide), h [0, 2] (by decide), h [1, 3] (by decide), h [2] (by decide)]; rfl
theorem kept4 : keptL 4 E4 1 0 = [false, true, false, true] := by
  unfold keptL levL levAcc
  rw [near4]; decide
theorem two4 {os : List Nat} (h : SetOk 4 E4 1 2 os) : os.length = 2 := by
  have hn : os.Nodup := h.ok.1.imp Nat.ne_of_lt
  refine Nat.le_antisymm ?_ ?_
  · have : (os.map (· / 2)).length ≤ 2 := nodup_len 2 _ (by
      rw [List.nodup_iff_pairwise_ne, List.pairwise_map]
      refine (List.nodup_iff_pairwise_ne.1 hn).imp_of_mem fun {a b} ha hb hab e => ?_
      have h1 := h.ok.2.2 a ha b hb
      have h2 := h.ok.2.1 a ha
      have h3 := h.ok.2.1 b hb
      rw [adj4] at h1; omega) (fun v hv => by obtain ⟨u, hu, rfl⟩ := List.mem_map.1 hv; have := h.ok.2.1 u hu; omega)
    simpa using this
  · obtain ⟨bs, hbs⟩ := best_ex (ad := adj E4) (p := fun v => v < 4 ∧ (keptL 4 E4 1 0).getD v false = true) (n := 4) (fun v h => h.1)
    refine Nat.le_trans ?_ (h.max 0 (by omega) bs hbs)
    refine hbs.max [1, 3] (by decide) (fun v hv => ?_) (fun u hu v hv => ?_)
    · rw [kept4]; simp only [List.mem_cons, List.not_mem_nil, or_false] at hv; rcases hv with rfl | rfl <;> decide
    · simp only [List.mem_cons, List.not_mem_nil, or_false] at hu hv; rw [adj4]; omega
theorem no4 : ¬ IndOk 4 E4 [0, 1] := fun h => h.2.2 0 (by simp) 1 (by simp) ((adj4 0 1).2 (by omega))
theorem lit_rds {H : Hp} {b e k sz tot : Nat} {cs : List Value} (hB : U.B ≤ b) (h : H b = some (.row e 0 cs tot)) (hk : cs.length = k * sz) : RdS U H (.slice (some ⟨b, 0, none⟩) k k) sz cs :=
  ⟨_, k, k, rfl, Nat.le_refl _, hk, fun _ => ⟨b, 0, rfl, fun j u hu => rd_at U hB h hu⟩⟩
theorem rd2_four {H : Hp} {v u0 u1 u2 u3 : Value} {x0 x1 x2 x3 : List Nat} (hv : RdS U H v 1 [u0, u1, u2, u3]) (h0 : RdS U H u0 1 (nats x0)) (h1 : RdS U H u1 1 (nats x1)) (h2 : RdS U H u2 1 (nats x2)) (h3 : RdS U H u3 1 (nats x3)) : Rd2 U H v [x0, x1, x2, x3] := by
  refine ⟨_, hv, rfl, fun i u xs hu hx => ?_⟩
  match i with
  | 0 => simp at hu hx; subst hu; subst hx; exact h0
  | 1 => simp at hu hx; subst hu; subst hx; exact h1
  | 2 => simp at hu hx; subst hu; subst hx; exact h2
  | 3 => simp at hu hx; subst hu; subst hx; exact h3
  | i + 4 => simp at hu
theorem wl_gen {n : Nat} {ops : Array Oper} {l : List Oper} {T : Tm} {H : Hp} {N : Nat} {Q : Post} (p : Hp → Prop) (h : p H) (k : ∀ H1, p H1 → U.B ≤ N → (∀ b o, H1 b = some o → U.B ≤ b ∧ b < N) → WL U n ops l T H1 N Q) : WL U n ops l T H N Q :=
  wl_own U fun h1 h2 => k H h h1 h2
theorem s8 (H : Hp) (N : Nat) : Spec U 8 #[] H N (fun v H' N' => v = .bool true ∧ Sub H H' ∧ N ≤ N') := by
  refine spa U pf_8 (m := 37) rfl rfl (by simp) fun hBN hlt => ?_
  obtain ⟨J, hJ⟩ := Has.ex (T := argsT #[]) (l := []) trivial
  rw [hJ]; clear hJ
  repeat (first|refine nt ?_|refine nq ?_|refine wq U ?_)
  refine wg U ?_
  refine wr U ((ra U).to (v' := (.bool false)) rfl) rfl rfl ?_
  refine wz U ?_
  repeat (first|refine nt ?_|refine nq ?_|refine wq U ?_)
  refine wg U ?_
  refine wr U (rd_build U (cells := #[(.int .i64 0), (.int .i64 1), (.int .i64 0)]) (by unfold P; kernel_rfl)) rfl rfl ?_
  refine wr U (rd_build U (cells := #[(.int .i64 1), (.int .i64 2), (.int .i64 0)]) (by unfold P; kernel_rfl)) rfl rfl ?_
  refine wr U (rd_build U (cells := #[(.int .i64 2), (.int .i64 3), (.int .i64 0)]) (by unfold P; kernel_rfl)) rfl rfl ?_
  refine wl_op U rfl rfl (op_bs U sl_22 rfl (by decide) (by decide) [(.agg #[(.int .i64 0), (.int .i64 1), (.int .i64 0)]), (.agg #[(.int .i64 1), (.int .i64 2), (.int .i64 0)]), (.agg #[(.int .i64 2), (.int .i64 3), (.int .i64 0)])] rfl (by simp [Value.cells]) rfl (cs := [(.int .i64 0), (.int .i64 1), (.int .i64 0), (.int .i64 1), (.int .i64 2), (.int .i64 0), (.int .i64 2), (.int .i64 3), (.int .i64 0)]) rfl ?_)
  refine wr U (rd_build U (cells := #[(.int .i64 4), (.slice (some ⟨N, 0, none⟩) 3 3)]) (by unfold P; kernel_rfl)) rfl rfl ?_
  refine wl_op U rfl rfl (op_alloc U z_24 rfl ?_)
  refine wl_op0 U rfl (op_store U (vs := [(.int .i64 4), (.slice (some ⟨N, 0, none⟩) 3 3)]) (cs := [(.int .i64 0), (.slice none 0 0)]) el_24 rfl rfl rfl rfl (one2 rfl rfl) (by first|(rw [hsy]; done) | (rw [hsy]; rfl)) (by omega) (by simp) ?_)
  refine wz U ?_
  repeat (first|refine nt ?_|refine nq ?_)
  refine wc_gen U (fun R => R N = some (.row 43 0 [(.int .i64 0), (.int .i64 1), (.int .i64 0), (.int .i64 1), (.int .i64 2), (.int .i64 0), (.int .i64 2), (.int .i64 3), (.int .i64 0)] 9) ∧ R (N + 1) = some (.row 24 0 [(.int .i64 4), (.slice (some ⟨N, 0, none⟩) 3 3)] 2) ∧ Sub _ R) ⟨(by first|(rw [hsn (b := N) (c := (N + 1)) (by omega), hsn (b := N) (c := (N + 1)) (by omega), hsy]; done) | (rw [hsn (b := N) (c := (N + 1)) (by omega), hsn (b := N) (c := (N + 1)) (by omega), hsy]; rfl)), (by first|(rw [hsy]; done) | (rw [hsy]; rfl)), ((((Sub.refl _).hset (fresh hlt (by omega))).hset (fresh hlt (by omega))).hset (fresh hlt (by omega)))⟩ ?_
  rintro H1 ⟨hx_1, hx_2, hs1⟩ hBNH1 hltH1
  repeat (first|refine nt ?_|refine nq ?_|refine wq U ?_)
  refine wg U ?_
  refine wr U (rd_load2 U el_24 rfl (v0 := (.int .i64 4)) (v1 := (.slice (some ⟨N, 0, none⟩) 3 3))  (by rw [rrw U (by omega) hx_2]; rfl) (by rw [rrw U (by omega) hx_2]; rfl)) rfl rfl ?_
  refine wl_op U rfl rfl (op_bs U sl_26 rfl (by decide) (by decide) [(.int .i64 1)] rfl (by simp [Value.cells]) rfl (cs := [(.int .i64 1)]) rfl ?_)
  refine wl_op U rfl rfl (op_bs U sl_26 rfl (by decide) (by decide) [(.int .i64 0), (.int .i64 2)] rfl (by simp [Value.cells]) rfl (cs := [(.int .i64 0), (.int .i64 2)]) rfl ?_)
  refine wl_op U rfl rfl (op_bs U sl_26 rfl (by decide) (by decide) [(.int .i64 1), (.int .i64 3)] rfl (by simp [Value.cells]) rfl (cs := [(.int .i64 1), (.int .i64 3)]) rfl ?_)
  refine wl_op U rfl rfl (op_bs U sl_26 rfl (by decide) (by decide) [(.int .i64 2)] rfl (by simp [Value.cells]) rfl (cs := [(.int .i64 2)]) rfl ?_)
  refine wl_op U rfl rfl (op_bs U sl_25 rfl (by decide) (by decide) [(.slice (some ⟨(N + 2), 0, none⟩) 1 1), (.slice (some ⟨(N + 3), 0, none⟩) 2 2), (.slice (some ⟨(N + 4), 0, none⟩) 2 2), (.slice (some ⟨(N + 5), 0, none⟩) 1 1)] rfl (by simp [Value.cells]) rfl (cs := [(.slice (some ⟨(N + 2), 0, none⟩) 1 1), (.slice (some ⟨(N + 3), 0, none⟩) 2 2), (.slice (some ⟨(N + 4), 0, none⟩) 2 2), (.slice (some ⟨(N + 5), 0, none⟩) 1 1)]) rfl ?_)
  refine wl_gen U (fun R => R N = some (.row 43 0 [(.int .i64 0), (.int .i64 1), (.int .i64 0), (.int .i64 1), (.int .i64 2), (.int .i64 0), (.int .i64 2), (.int .i64 3), (.int .i64 0)] 9) ∧ R (N + 1) = some (.row 24 0 [(.int .i64 4), (.slice (some ⟨N, 0, none⟩) 3 3)] 2) ∧ R (N + 2) = some (.row 3 0 [(.int .i64 1)] 1) ∧ R (N + 3) = some (.row 3 0 [(.int .i64 0), (.int .i64 2)] 2) ∧ R (N + 4) = some (.row 3 0 [(.int .i64 1), (.int .i64 3)] 2) ∧ R (N + 5) = some (.row 3 0 [(.int .i64 2)] 1) ∧ R (N + 6) = some (.row 26 0 [(.slice (some ⟨(N + 2), 0, none⟩) 1 1), (.slice (some ⟨(N + 3), 0, none⟩) 2 2), (.slice (some ⟨(N + 4), 0, none⟩) 2 2), (.slice (some ⟨(N + 5), 0, none⟩) 1 1)] 4) ∧ Sub H1 R) ⟨(by rw [hsn (b := N) (c := (N + 6)) (by omega), hsn (b := N) (c := (N + 5)) (by omega), hsn (b := N) (c := (N + 4)) (by omega), hsn (b := N) (c := (N + 3)) (by omega), hsn (b := N) (c := (N + 2)) (by omega)]; exact hx_1), (by rw [hsn (b := (N + 1)) (c := (N + 6)) (by omega), hsn (b := (N + 1)) (c := (N + 5)) (by omega), hsn (b := (N + 1)) (c := (N + 4)) (by omega), hsn (b := (N + 1)) (c := (N + 3)) (by omega), hsn (b := (N + 1)) (c := (N + 2)) (by omega)]; exact hx_2), (by first|(rw [hsn (b := (N + 2)) (c := (N + 6)) (by omega), hsn (b := (N + 2)) (c := (N + 5)) (by omega), hsn (b := (N + 2)) (c := (N + 4)) (by omega), hsn (b := (N + 2)) (c := (N + 3)) (by omega), hsy]; done) | (rw [hsn (b := (N + 2)) (c := (N + 6)) (by omega), hsn (b := (N + 2)) (c := (N + 5)) (by omega), hsn (b := (N + 2)) (c := (N + 4)) (by omega), hsn (b := (N + 2)) (c := (N + 3)) (by omega), hsy]; rfl)), (by first|(rw [hsn (b := (N + 3)) (c := (N + 6)) (by omega), hsn (b := (N + 3)) (c := (N + 5)) (by omega), hsn (b := (N + 3)) (c := (N + 4)) (by omega), hsy]; done) | (rw [hsn (b := (N + 3)) (c := (N + 6)) (by omega), hsn (b := (N + 3)) (c := (N + 5)) (by omega), hsn (b := (N + 3)) (c := (N + 4)) (by omega), hsy]; rfl)), (by first|(rw [hsn (b := (N + 4)) (c := (N + 6)) (by omega), hsn (b := (N + 4)) (c := (N + 5)) (by omega), hsy]; done) | (rw [hsn (b := (N + 4)) (c := (N + 6)) (by omega), hsn (b := (N + 4)) (c := (N + 5)) (by omega), hsy]; rfl)), (by first|(rw [hsn (b := (N + 5)) (c := (N + 6)) (by omega), hsy]; done) | (rw [hsn (b := (N + 5)) (c := (N + 6)) (by omega), hsy]; rfl)), (by first|(rw [hsy]; done) | (rw [hsy]; rfl)), ((((((Sub.refl _).hset (fresh hltH1 (by omega))).hset (fresh hltH1 (by omega))).hset (fresh hltH1 (by omega))).hset (fresh hltH1 (by omega))).hset (fresh hltH1 (by omega)))⟩ ?_
  rintro H2 ⟨hq0, hq1, hq2, hq3, hq4, hq5, hq6, hs2⟩ hBN2 hlt2
  have hv : RdS U H2 (.slice (some ⟨N, 0, none⟩) 3 3) 3 (necs E4) := (lit_rds U (by omega) hq0 rfl)
  have hr : Rd2 U H2 (.slice (some ⟨(N + 6), 0, none⟩) 4 4) R4 := rd2_four U (lit_rds U (by omega) hq6 rfl) (lit_rds U (by omega) hq2 rfl) (lit_rds U (by omega) hq3 rfl) (lit_rds U (by omega) hq4 rfl) (lit_rds U (by omega) hq5 rfl)
  refine wl_op U rfl rfl (op_call U Tryz.f9 rfl rfl pf_9 (by kernel_rfl) (by kernel_rfl) ((s9 U 4 1 E4 _ _ R4 gok4 (by decide) plane4 (by decide) (by decide) _ _ hv hr).mono U ?_))
  rintro _ H3 N3 ⟨ov, os, rfl, hor, hos, hs3, hN3⟩
  obtain ⟨op, ocap, rfl, hoc, hop⟩ := hor.nums U
  have hlen := two4 hos
  have hol := hlen
  have hx_3 := hs3 N _ hq0
  have hx_4 := hs3 (N + 1) _ hq1
  have hx_5 := hs3 (N + 2) _ hq2
  have hx_6 := hs3 (N + 3) _ hq3
  have hx_7 := hs3 (N + 4) _ hq4
  have hx_8 := hs3 (N + 5) _ hq5
  have hx_9 := hs3 (N + 6) _ hq6
  have hs_10 := (Sub.refl _).trans hs3
  refine wr U ((rm U).to (v' := (.tuple #[(.slice op os.length ocap), (.int .i64 0)])) rfl) rfl rfl ?_
  refine wr U ((rd_extract U rfl rfl).to (v' := (.slice op os.length ocap)) rfl) rfl rfl ?_
  refine wr U ((rd_extract U rfl rfl).to (v' := (.int .i64 0)) rfl) rfl rfl ?_
  refine wr U ((ra U).to (v' := (.slice op os.length ocap)) rfl) rfl rfl ?_
  refine wr U ((ra U).to (v' := (.int .i64 0)) rfl) rfl rfl ?_
  refine wz U ?_
  repeat (first|refine nt ?_|refine nq ?_|refine wq U ?_)
  refine wg U ?_
  refine wr U ((rm U).to (v' := (.int .i64 0)) rfl) rfl rfl ?_
  refine wr U ((rd_eql U rfl rfl).to (v' := (.bool true)) (congrArg Value.bool (decide_eq_true rfl))) rfl rfl ?_
  refine wr U ((rm U).to (v' := (.bool true)) rfl) rfl rfl ?_
  refine wr U ((rm U).to (v' := (.slice op os.length ocap)) rfl) rfl rfl ?_
  refine wr U ((rd_len' U sl_26 rfl).to (v' := (.int .i64 ((os.length : Nat) : Int))) rfl) rfl rfl ?_
  refine wr U ((rd_eql U rfl rfl).to (v' := (.bool true)) (congrArg Value.bool (decide_eq_true (by omega)))) rfl rfl ?_
  refine wr U ((rd_pick U rfl).to (v' := (.bool true)) rfl) rfl rfl ?_
  refine wr U ((rm U).to (v' := (.bool true)) rfl) rfl rfl ?_
  refine wr U (rd_load2 U el_24 rfl (v0 := (.int .i64 4)) (v1 := (.slice (some ⟨N, 0, none⟩) 3 3))  (by rw [rrw U (by omega) hx_4]; rfl) (by rw [rrw U (by omega) hx_4]; rfl)) rfl rfl ?_
  refine wr U ((rm U).to (v' := (.slice op os.length ocap)) rfl) rfl rfl ?_
  refine wl_op U rfl rfl (op_call U Tryz.f10 rfl rfl pf_10 (by kernel_rfl) (by kernel_rfl) ((s10 U 4 E4 _ _ os 2 1 (by decide) (by decide) gok4 (by omega) _ _ (hv.sub U hs3) hor).mono U ?_))
  rintro _ H4 N4 ⟨⟨b, rfl, hb⟩, hs4, hN4⟩
  obtain rfl : b = true := hb.2 ⟨by decide, by decide, hos.ok, by rw [hlen]; decide⟩
  have hx_11 := hs4 N _ hx_3
  have hx_12 := hs4 (N + 1) _ hx_4
  have hx_13 := hs4 (N + 2) _ hx_5
  have hx_14 := hs4 (N + 3) _ hx_6
  have hx_15 := hs4 (N + 4) _ hx_7
  have hx_16 := hs4 (N + 5) _ hx_8
  have hx_17 := hs4 (N + 6) _ hx_9
  have hs_18 := hs_10.trans hs4
  refine wl_own U fun hBN4 hlt4 => ?_
  refine wr U ((rd_pick U rfl).to (v' := (.bool true)) rfl) rfl rfl ?_
  refine wr U ((rm U).to (v' := (.bool true)) rfl) rfl rfl ?_
  refine wr U (rd_load2 U el_24 rfl (v0 := (.int .i64 4)) (v1 := (.slice (some ⟨N, 0, none⟩) 3 3))  (by rw [rrw U (by omega) hx_12]; rfl) (by rw [rrw U (by omega) hx_12]; rfl)) rfl rfl ?_
  refine wl_op U rfl rfl (op_bs U sl_26 rfl (by decide) (by decide) [(.int .i64 0), (.int .i64 1)] rfl (by simp [Value.cells]) rfl (cs := [(.int .i64 0), (.int .i64 1)]) rfl ?_)
  refine wl_op U rfl rfl (op_call U Tryz.f10 rfl rfl pf_10 (by kernel_rfl) (by kernel_rfl) ((s10 U 4 E4 _ _ [0, 1] 2 1 (by decide) (by decide) gok4 (by decide) _ _ ((hv.sub U (hs3.trans hs4)).sub U ((Sub.refl H4).hset (fresh hlt4 (by omega)))) (lit_rds U (by omega) hsy rfl)).mono U ?_))
  rintro _ H5 N5 ⟨⟨b, rfl, hb2⟩, hs5, hN5⟩
  obtain rfl : b = false := by
    cases b
    · rfl
    · exact absurd (hb2.1 rfl).2.2.1 no4
  refine wr U ((rd_not U rfl).to (v' := (.bool true)) rfl) rfl rfl ?_
  refine wr U ((rd_pick U rfl).to (v' := (.bool true)) rfl) rfl rfl ?_
  refine wr U ((ra U).to (v' := (.bool true)) rfl) rfl rfl ?_
  refine wz U ?_
  refine wc_ret U ?_
  repeat (first|refine ret1 ?_|refine ret2 ?_)
  exact end1 U (.inl rfl) rfl (v := (.bool true)) rfl ⟨rfl, (((hs1.trans hs2).trans hs3).trans hs4).trans (((Sub.refl H4).hset (fresh hlt4 (by omega))).trans hs5), by omega⟩
end Go.Proofs.YtdmodppoellbkaaGreat
namespace Go.Proofs.YtdmodppoellbkaaGreat
open Go Go.RowKit
variable (U : Cx)
theorem kept_getD {n : Nat} {E : List NE} (hg : GOk n E) {k s v : Nat} (hv : v < n) : (keptL n E k s).getD v false = keptB k s ((levL n E).getD v 0) := by
  have h1 := keptL_length hg k s
  have h2 : (levL n E).length = n := by rw [keptL, List.length_map] at h1; exact h1
  unfold keptL
  simp [List.getD_eq_getElem?_getD, List.getElem?_map, h2, hv]
theorem kept_best {n : Nat} {E : List NE} (hg : GOk n E) {k s : Nat} {bs : List Nat} (h : Best (adj E) (fun v => v < n ∧ keptB k s ((levL n E).getD v 0) = true) bs) : Best (adj E) (fun v => v < n ∧ (keptL n E k s).getD v false = true) bs :=
  h.congr (fun v => ⟨fun ⟨h1, h2⟩ => ⟨h1, by rw [kept_getD hg h1]; exact h2⟩, fun ⟨h1, h2⟩ => ⟨h1, by rw [kept_getD hg h1] at h2; exact h2⟩⟩) fun _ _ _ _ => Iff.rfl
theorem any_law {n : Nat} {E : List NE} (hg : GOk n E) {k : Nat} {os is : List Nat} (h : SetOk n E k (k + 1) os) (hi : IndOk n E is) : k * is.length ≤ (k + 1) * os.length :=
  pigeon (ad := adj E) (n := n) (fun v => (levL n E).getD v 0) (fun s hs bs hb => h.max s (by omega) bs (kept_best hg hb)) (fun s hs => best_ex (n := n) fun v h => h.1) is (hi.1.imp Nat.ne_of_lt) hi.2.1 hi.2.2
theorem cast_law {a b c : Nat} (h : a * b ≤ (a + 1) * c) : ((a : Nat) : Int) * ((b : Nat) : Int) ≤ (((a : Nat) : Int) + 1) * ((c : Nat) : Int) := by
  have := Int.ofNat_le.2 h
  rw [Int.natCast_mul, Int.natCast_mul, Int.natCast_add] at this; exact this
theorem less_law {k l : Nat} {m : Int} (hk : 2 ≤ k) (h0 : 0 ≤ m) (h : ((k : Nat) : Int) * m ≤ (((k : Nat) : Int) + 1) * ((l : Nat) : Int)) : (((k - 1 : Nat)) : Int) * m ≤ ((((k - 1 : Nat)) : Int) + 1) * ((l : Nat) : Int) := by
  have e1 : (((k - 1 : Nat)) : Int) = ((k : Nat) : Int) - 1 := by omega
  rw [e1, show ((k : Nat) : Int) - 1 + 1 = ((k : Nat) : Int) by omega, Int.sub_mul, Int.one_mul]
  rw [Int.add_mul, Int.one_mul] at h
  rcases Int.le_total ((l : Nat) : Int) m with h1 | h1
  · omega
  · have := Int.mul_le_mul_of_nonneg_left h1 (show (0 : Int) ≤ ((k : Nat) : Int) by omega); omega
theorem best_ok {n : Nat} {E : List NE} {p : Nat → Prop} {bs : List Nat} (hs : bs.Pairwise (· < ·)) (h : Best (adj E) p bs) (hp : ∀ v, p v → v < n) : IndOk n E bs := ⟨hs, fun v hv => hp v (h.mem v hv), h.ind⟩
theorem s3 (n : Int) (E : List Ed) (sv rv : Value) (rss : List (List Int)) (hbl : ∀ xs ∈ rss, xs.length ≤ 4611686018427387904) (hbr : rss.length ≤ 4611686018427387904) (iv : Value) (xs : List Int) (k : Int) (H : Hp) (N : Nat) (hv : RdS U H sv 3 (ecs E)) (hr : Rd2I U H rv rss) (hx : RdS U H iv 1 (ints xs)) : Spec U 3 #[(.agg #[(.int .i64 n), sv]), rv, iv, (.int .i64 k)] H N (fun v H' N' => v = .bool true ∧ Sub H H' ∧ N ≤ N') := by
  have hx0 := hx
  obtain ⟨xp, xk, xcap, rfl, hxc, hxk, hxp⟩ := hx.out U
  obtain rfl : xs.length = xk := by rw [ints_length] at hxk; omega
  refine spa U pf_3 (m := 67) rfl rfl (by simp) fun hBN hlt => ?_
  obtain ⟨J, hJ⟩ := Has.ex (T := argsT #[(.agg #[(.int .i64 n), sv]), rv, (.slice xp xs.length xcap), (.int .i64 k)]) (l := [(0, (.agg #[(.int .i64 n), sv])), (1, rv), (2, (.slice xp xs.length xcap)), (3, (.int .i64 k))]) ⟨rfl, rfl, rfl, rfl, trivial⟩
  rw [hJ]; clear hJ
  repeat (first|refine nt ?_|refine nq ?_|refine wq U ?_)
  refine wg U ?_
  refine wl_op U rfl rfl (op_box U rfl rfl ?_)
  refine wr U ((ra U).to (v' := (.bool false)) rfl) rfl rfl ?_
  refine wz U ?_
  repeat (first|refine nt ?_|refine nq ?_)
  refine wc_gen U (fun R => R N = some (.row 24 0 [(.int .i64 n), sv] 2) ∧ Sub _ R) ⟨(by first|(rw [hsy]; done) | (rw [hsy]; rfl)), ((Sub.refl _).hset (fresh hlt (by omega)))⟩ ?_
  rintro H1 ⟨hx_1, hs1⟩ hBNH1 hltH1
  have hbx1 := hx_1
  repeat (first|refine nt ?_|refine nq ?_|refine wq U ?_)
  refine wg U ?_
  refine wr U (rd_load2 U el_24 rfl (v0 := (.int .i64 n)) (v1 := sv)  (by rw [rrw U (by omega) hbx1]; rfl) (by rw [rrw U (by omega) hbx1]; rfl)) rfl rfl ?_
  refine wr U ((rm U).to (v' := rv) rfl) rfl rfl ?_
  refine wl_op U rfl rfl (op_call U Tryz.f5 rfl rfl pf_5 (by kernel_rfl) (by kernel_rfl) ((s5 U n E _ rv rss hbl hbr _ _ (hv.sub U hs1) (hr.sub U hs1)).mono U ?_))
  rintro _ H2 N2 ⟨⟨bL, rfl, hbL⟩, hs2, hN2⟩
  have hbx2 := hs2 _ _ hbx1
  have hs12 := hs1.trans hs2
  cases bL
  · skip
    refine wr U ((rd_not U rfl).to (v' := (.bool true)) rfl) rfl rfl ?_
    refine wr U ((rm U).to (v' := (.bool true)) rfl) rfl rfl ?_
    refine wl_pass U rfl rfl ?_
    refine wl_pass U rfl rfl ?_
    refine wl_pass U rfl rfl ?_
    refine wl_pass U rfl rfl ?_
    refine wr U ((rd_pick U rfl).to (v' := (.bool true)) rfl) rfl rfl ?_
    refine wr U ((rm U).to (v' := (.bool true)) rfl) rfl rfl ?_
    refine wl_pass U rfl rfl ?_
    refine wl_pass U rfl rfl ?_
    refine wr U ((rd_pick U rfl).to (v' := (.bool true)) rfl) rfl rfl ?_
    refine wr U ((rm U).to (v' := (.bool true)) rfl) rfl rfl ?_
    refine wl_pass U rfl rfl ?_
    refine wl_pass U rfl rfl ?_
    refine wr U ((rd_pick U rfl).to (v' := (.bool true)) rfl) rfl rfl ?_
    refine wr U ((rm U).to (v' := (.bool true)) rfl) rfl rfl ?_
    refine wl_pass U rfl rfl ?_
    refine wl_pass U rfl rfl ?_
    refine wl_pass U rfl rfl ?_
    refine wr U ((rd_pick U rfl).to (v' := (.bool true)) rfl) rfl rfl ?_
    refine wr U ((rm U).to (v' := (.bool true)) rfl) rfl rfl ?_
    refine wl_pass U rfl rfl ?_
    refine wl_pass U rfl rfl ?_
    refine wl_pass U rfl rfl ?_
    refine wl_pass U rfl rfl ?_
    refine wr U ((rd_pick U rfl).to (v' := (.bool true)) rfl) rfl rfl ?_
    refine wz U ?_
    repeat (first|refine nt ?_|refine nq ?_|refine wq U ?_)
    refine wcd U (t := true) rfl (fun _ => ?_) (fun h => nomatch h)
    repeat (first|refine nt ?_|refine nq ?_|refine wq U ?_)
    refine wg U ?_
    refine wl_op U rfl rfl (op_call U Tryz.f8 rfl rfl pf_8 (by kernel_rfl) (by kernel_rfl) ((s8 U _ _).mono U ?_))
    rintro _ HZ NZ ⟨rfl, hsZ, hNZ⟩
    refine wr U ((ra U).to (v' := (.bool true)) rfl) rfl rfl ?_
    refine wz U ?_
    refine wc_ret U ?_
    repeat (first|refine ret1 ?_|refine ret2 ?_)
    exact end1 U (.inl rfl) rfl (v := (.bool true)) rfl ⟨rfl, hs12.trans hsZ, by omega⟩
  · skip
    refine wr U ((rd_not U rfl).to (v' := (.bool false)) rfl) rfl rfl ?_
    refine wr U ((rm U).to (v' := (.bool false)) rfl) rfl rfl ?_
    refine wr U (rd_load2 U el_24 rfl (v0 := (.int .i64 n)) (v1 := sv)  (by rw [rrw U (by omega) hbx2]; rfl) (by rw [rrw U (by omega) hbx2]; rfl)) rfl rfl ?_
    refine wr U ((rm U).to (v' := rv) rfl) rfl rfl ?_
    obtain ⟨hn24, hm96, hrl⟩ := hbL rfl
    refine wl_op U rfl rfl (op_call U Tryz.f6 rfl rfl pf_6 (by kernel_rfl) (by kernel_rfl) ((s6 U n E _ rv rss (by omega) (by omega) hrl _ _ (hv.sub U hs12) (hr.sub U hs12)).mono U ?_))
    rintro _ H3 N3 ⟨⟨kP, rfl, hkP⟩, hs3, hN3⟩
    have hbx3 := hs3 _ _ hbx2
    have hs13 := hs12.trans hs3
    by_cases h1_8 : kP ≠ 0
    · skip
      refine wr U ((rd_neq U rfl rfl).to (v' := (.bool true)) (congrArg Value.bool (decide_eq_true h1_8))) rfl rfl ?_
      refine wr U ((rd_pick U rfl).to (v' := (.bool true)) rfl) rfl rfl ?_
      refine wr U ((rm U).to (v' := (.bool true)) rfl) rfl rfl ?_
      refine wl_pass U rfl rfl ?_
      refine wl_pass U rfl rfl ?_
      refine wr U ((rd_pick U rfl).to (v' := (.bool true)) rfl) rfl rfl ?_
      refine wr U ((rm U).to (v' := (.bool true)) rfl) rfl rfl ?_
      refine wl_pass U rfl rfl ?_
      refine wl_pass U rfl rfl ?_
      refine wr U ((rd_pick U rfl).to (v' := (.bool true)) rfl) rfl rfl ?_
      refine wr U ((rm U).to (v' := (.bool true)) rfl) rfl rfl ?_
      refine wl_pass U rfl rfl ?_
      refine wl_pass U rfl rfl ?_
      refine wl_pass U rfl rfl ?_
      refine wr U ((rd_pick U rfl).to (v' := (.bool true)) rfl) rfl rfl ?_
      refine wr U ((rm U).to (v' := (.bool true)) rfl) rfl rfl ?_
      refine wl_pass U rfl rfl ?_
      refine wl_pass U rfl rfl ?_
      refine wl_pass U rfl rfl ?_
      refine wl_pass U rfl rfl ?_
      refine wr U ((rd_pick U rfl).to (v' := (.bool true)) rfl) rfl rfl ?_
      refine wz U ?_
      repeat (first|refine nt ?_|refine nq ?_|refine wq U ?_)
      refine wcd U (t := true) rfl (fun _ => ?_) (fun h => nomatch h)
      repeat (first|refine nt ?_|refine nq ?_|refine wq U ?_)
      refine wg U ?_
      refine wl_op U rfl rfl (op_call U Tryz.f8 rfl rfl pf_8 (by kernel_rfl) (by kernel_rfl) ((s8 U _ _).mono U ?_))
      rintro _ HZ NZ ⟨rfl, hsZ, hNZ⟩
      refine wr U ((ra U).to (v' := (.bool true)) rfl) rfl rfl ?_
      refine wz U ?_
      refine wc_ret U ?_
      repeat (first|refine ret1 ?_|refine ret2 ?_)
      exact end1 U (.inl rfl) rfl (v := (.bool true)) rfl ⟨rfl, hs13.trans hsZ, by omega⟩
    · skip
      refine wr U ((rd_neq U rfl rfl).to (v' := (.bool false)) (congrArg Value.bool (decide_eq_false h1_8))) rfl rfl ?_
      refine wr U ((rd_pick U rfl).to (v' := (.bool false)) rfl) rfl rfl ?_
      refine wr U ((rm U).to (v' := (.bool false)) rfl) rfl rfl ?_
      refine wr U ((rm U).to (v' := (.int .i64 k)) rfl) rfl rfl ?_
      by_cases h1_12 : k < 1
      · skip
        refine wr U ((rd_lss U rfl rfl).to (v' := (.bool true)) (congrArg Value.bool (decide_eq_true h1_12))) rfl rfl ?_
        refine wr U ((rd_pick U rfl).to (v' := (.bool true)) rfl) rfl rfl ?_
        refine wr U ((rm U).to (v' := (.bool true)) rfl) rfl rfl ?_
        refine wl_pass U rfl rfl ?_
        refine wl_pass U rfl rfl ?_
        refine wr U ((rd_pick U rfl).to (v' := (.bool true)) rfl) rfl rfl ?_
        refine wr U ((rm U).to (v' := (.bool true)) rfl) rfl rfl ?_
        refine wl_pass U rfl rfl ?_
        refine wl_pass U rfl rfl ?_
        refine wl_pass U rfl rfl ?_
        refine wr U ((rd_pick U rfl).to (v' := (.bool true)) rfl) rfl rfl ?_
        refine wr U ((rm U).to (v' := (.bool true)) rfl) rfl rfl ?_
        refine wl_pass U rfl rfl ?_
        refine wl_pass U rfl rfl ?_
        refine wl_pass U rfl rfl ?_
        refine wl_pass U rfl rfl ?_
        refine wr U ((rd_pick U rfl).to (v' := (.bool true)) rfl) rfl rfl ?_
        refine wz U ?_
        repeat (first|refine nt ?_|refine nq ?_|refine wq U ?_)
        refine wcd U (t := true) rfl (fun _ => ?_) (fun h => nomatch h)
        repeat (first|refine nt ?_|refine nq ?_|refine wq U ?_)
        refine wg U ?_
        refine wl_op U rfl rfl (op_call U Tryz.f8 rfl rfl pf_8 (by kernel_rfl) (by kernel_rfl) ((s8 U _ _).mono U ?_))
        rintro _ HZ NZ ⟨rfl, hsZ, hNZ⟩
        refine wr U ((ra U).to (v' := (.bool true)) rfl) rfl rfl ?_
        refine wz U ?_
        refine wc_ret U ?_
        repeat (first|refine ret1 ?_|refine ret2 ?_)
        exact end1 U (.inl rfl) rfl (v := (.bool true)) rfl ⟨rfl, hs13.trans hsZ, by omega⟩
      · skip
        refine wr U ((rd_lss U rfl rfl).to (v' := (.bool false)) (congrArg Value.bool (decide_eq_false h1_12))) rfl rfl ?_
        refine wr U ((rd_pick U rfl).to (v' := (.bool false)) rfl) rfl rfl ?_
        refine wr U ((rm U).to (v' := (.bool false)) rfl) rfl rfl ?_
        refine wr U ((rm U).to (v' := (.int .i64 k)) rfl) rfl rfl ?_
        by_cases h1_16 : 8 < k
        · skip
          refine wr U ((rd_gtr U rfl rfl).to (v' := (.bool true)) (congrArg Value.bool (decide_eq_true h1_16))) rfl rfl ?_
          refine wr U ((rd_pick U rfl).to (v' := (.bool true)) rfl) rfl rfl ?_
          refine wr U ((rm U).to (v' := (.bool true)) rfl) rfl rfl ?_
          refine wl_pass U rfl rfl ?_
          refine wl_pass U rfl rfl ?_
          refine wl_pass U rfl rfl ?_
          refine wr U ((rd_pick U rfl).to (v' := (.bool true)) rfl) rfl rfl ?_
          refine wr U ((rm U).to (v' := (.bool true)) rfl) rfl rfl ?_
          refine wl_pass U rfl rfl ?_
          refine wl_pass U rfl rfl ?_
          refine wl_pass U rfl rfl ?_
          refine wl_pass U rfl rfl ?_
          refine wr U ((rd_pick U rfl).to (v' := (.bool true)) rfl) rfl rfl ?_
          refine wz U ?_
          repeat (first|refine nt ?_|refine nq ?_|refine wq U ?_)
          refine wcd U (t := true) rfl (fun _ => ?_) (fun h => nomatch h)
          repeat (first|refine nt ?_|refine nq ?_|refine wq U ?_)
          refine wg U ?_
          refine wl_op U rfl rfl (op_call U Tryz.f8 rfl rfl pf_8 (by kernel_rfl) (by kernel_rfl) ((s8 U _ _).mono U ?_))
          rintro _ HZ NZ ⟨rfl, hsZ, hNZ⟩
          refine wr U ((ra U).to (v' := (.bool true)) rfl) rfl rfl ?_
          refine wz U ?_
          refine wc_ret U ?_
          repeat (first|refine ret1 ?_|refine ret2 ?_)
          exact end1 U (.inl rfl) rfl (v := (.bool true)) rfl ⟨rfl, hs13.trans hsZ, by omega⟩
        · skip
          refine wr U ((rd_gtr U rfl rfl).to (v' := (.bool false)) (congrArg Value.bool (decide_eq_false h1_16))) rfl rfl ?_
          refine wr U ((rd_pick U rfl).to (v' := (.bool false)) rfl) rfl rfl ?_
          refine wr U ((rm U).to (v' := (.bool false)) rfl) rfl rfl ?_
          refine wr U ((rm U).to (v' := (.slice xp xs.length xcap)) rfl) rfl rfl ?_
          refine wr U ((rd_len' U sl_26 rfl).to (v' := (.int .i64 ((xs.length : Nat) : Int))) rfl) rfl rfl ?_
          by_cases h1_21 : 100 < ((xs.length : Nat) : Int)
          · skip
            refine wr U ((rd_gtr U rfl rfl).to (v' := (.bool true)) (congrArg Value.bool (decide_eq_true h1_21))) rfl rfl ?_
            refine wr U ((rd_pick U rfl).to (v' := (.bool true)) rfl) rfl rfl ?_
            refine wr U ((rm U).to (v' := (.bool true)) rfl) rfl rfl ?_
            refine wl_pass U rfl rfl ?_
            refine wl_pass U rfl rfl ?_
            refine wl_pass U rfl rfl ?_
            refine wl_pass U rfl rfl ?_
            refine wr U ((rd_pick U rfl).to (v' := (.bool true)) rfl) rfl rfl ?_
            refine wz U ?_
            repeat (first|refine nt ?_|refine nq ?_|refine wq U ?_)
            refine wcd U (t := true) rfl (fun _ => ?_) (fun h => nomatch h)
            repeat (first|refine nt ?_|refine nq ?_|refine wq U ?_)
            refine wg U ?_
            refine wl_op U rfl rfl (op_call U Tryz.f8 rfl rfl pf_8 (by kernel_rfl) (by kernel_rfl) ((s8 U _ _).mono U ?_))
            rintro _ HZ NZ ⟨rfl, hsZ, hNZ⟩
            refine wr U ((ra U).to (v' := (.bool true)) rfl) rfl rfl ?_
            refine wz U ?_
            refine wc_ret U ?_
            repeat (first|refine ret1 ?_|refine ret2 ?_)
            exact end1 U (.inl rfl) rfl (v := (.bool true)) rfl ⟨rfl, hs13.trans hsZ, by omega⟩
          · skip
            refine wr U ((rd_gtr U rfl rfl).to (v' := (.bool false)) (congrArg Value.bool (decide_eq_false h1_21))) rfl rfl ?_
            refine wr U ((rd_pick U rfl).to (v' := (.bool false)) rfl) rfl rfl ?_
            refine wr U ((rm U).to (v' := (.bool false)) rfl) rfl rfl ?_
            refine wr U (rd_load2 U el_24 rfl (v0 := (.int .i64 n)) (v1 := sv)  (by rw [rrw U (by omega) hbx3]; rfl) (by rw [rrw U (by omega) hbx3]; rfl)) rfl rfl ?_
            refine wr U ((rm U).to (v' := (.slice xp xs.length xcap)) rfl) rfl rfl ?_
            obtain ⟨m, E', rs, hnm, hEE, hg, hrr, hP⟩ := hkP (by omega)
            subst hnm; subst hEE; subst hrr
            have hvn : RdS U H sv 3 (necs E') := by rw [← ecs_nE]; exact hv
            have hrn := hr.nat U
            refine wl_op U rfl rfl (op_call U Tryz.f7 rfl rfl pf_7 (by kernel_rfl) (by kernel_rfl) ((s7 U m E' _ _ xs hg (by omega) _ _ (hvn.sub U hs13) (hx0.sub U hs13)).mono U ?_))
            rintro _ H4 N4 ⟨⟨kc, rfl, hkc⟩, hs4, hN4⟩
            have hbx4 := hs4 _ _ hbx3
            have hs14 := hs13.trans hs4
            by_cases h1_27 : kc ≠ 0
            · skip
              refine wr U ((rd_neq U rfl rfl).to (v' := (.bool true)) (congrArg Value.bool (decide_eq_true h1_27))) rfl rfl ?_
              refine wr U ((rd_pick U rfl).to (v' := (.bool true)) rfl) rfl rfl ?_
              refine wz U ?_
              repeat (first|refine nt ?_|refine nq ?_|refine wq U ?_)
              refine wcd U (t := true) rfl (fun _ => ?_) (fun h => nomatch h)
              repeat (first|refine nt ?_|refine nq ?_|refine wq U ?_)
              refine wg U ?_
              refine wl_op U rfl rfl (op_call U Tryz.f8 rfl rfl pf_8 (by kernel_rfl) (by kernel_rfl) ((s8 U _ _).mono U ?_))
              rintro _ HZ NZ ⟨rfl, hsZ, hNZ⟩
              refine wr U ((ra U).to (v' := (.bool true)) rfl) rfl rfl ?_
              refine wz U ?_
              refine wc_ret U ?_
              repeat (first|refine ret1 ?_|refine ret2 ?_)
              exact end1 U (.inl rfl) rfl (v := (.bool true)) rfl ⟨rfl, hs14.trans hsZ, by omega⟩
            · skip
              refine wr U ((rd_neq U rfl rfl).to (v' := (.bool false)) (congrArg Value.bool (decide_eq_false h1_27))) rfl rfl ?_
              refine wr U ((rd_pick U rfl).to (v' := (.bool false)) rfl) rfl rfl ?_
              refine wz U ?_
              repeat (first|refine nt ?_|refine nq ?_|refine wq U ?_)
              refine wcd U (t := false) rfl (fun h => nomatch h) fun _ => ?_
              refine wsk U ?_
              repeat (first|refine nt ?_|refine nq ?_)
              obtain ⟨is, hxe, hI⟩ := hkc.1 (by omega)
              obtain ⟨kk, rfl⟩ : ∃ kk : Nat, k = ((kk : Nat) : Int) := ⟨k.toNat, by omega⟩
              have hil : xs.length = is.length := by rw [hxe]; simp [castL]
              repeat (first|refine nt ?_|refine nq ?_|refine wq U ?_)
              refine wg U ?_
              refine wr U (rd_load2 U el_24 rfl (v0 := (.int .i64 ((m : Nat) : Int))) (v1 := sv)  (by rw [rrw U (by omega) hbx4]; rfl) (by rw [rrw U (by omega) hbx4]; rfl)) rfl rfl ?_
              refine wr U ((rm U).to (v' := rv) rfl) rfl rfl ?_
              refine wr U ((rm U).to (v' := (.int .i64 ((kk : Nat) : Int))) rfl) rfl rfl ?_
              refine wl_op U rfl rfl (op_call U Tryz.f9 rfl rfl pf_9 (by kernel_rfl) (by kernel_rfl) ((s9 U m kk E' _ rv rs hg (by omega) hP (by omega) (by omega) _ _ (hvn.sub U hs14) (hrn.sub U hs14)).mono U ?_))
              rintro _ H5 N5 ⟨ov, os, rfl, hor, hos, hs5, hN5⟩
              obtain ⟨op, ocap, rfl, hoc, hop⟩ := hor.nums U
              have hbx5 := hs5 _ _ hbx4
              have hs15 := hs14.trans hs5
              refine wr U ((rm U).to (v' := (.tuple #[(.slice op os.length ocap), (.int .i64 0)])) rfl) rfl rfl ?_
              refine wr U ((rd_extract U rfl rfl).to (v' := (.slice op os.length ocap)) rfl) rfl rfl ?_
              refine wr U ((rd_extract U rfl rfl).to (v' := (.int .i64 0)) rfl) rfl rfl ?_
              refine wr U ((ra U).to (v' := (.slice op os.length ocap)) rfl) rfl rfl ?_
              refine wr U ((ra U).to (v' := (.int .i64 0)) rfl) rfl rfl ?_
              refine wz U ?_
              have hol := nodup_len m os (hos.ok.1.imp Nat.ne_of_lt) hos.ok.2.1
              repeat (first|refine nt ?_|refine nq ?_|refine wq U ?_)
              refine wg U ?_
              refine wr U ((rm U).to (v' := (.int .i64 0)) rfl) rfl rfl ?_
              refine wr U ((rd_eql U rfl rfl).to (v' := (.bool true)) (congrArg Value.bool (decide_eq_true rfl))) rfl rfl ?_
              refine wr U ((rm U).to (v' := (.bool true)) rfl) rfl rfl ?_
              refine wr U (rd_load2 U el_24 rfl (v0 := (.int .i64 ((m : Nat) : Int))) (v1 := sv)  (by rw [rrw U (by omega) hbx5]; rfl) (by rw [rrw U (by omega) hbx5]; rfl)) rfl rfl ?_
              refine wr U ((rm U).to (v' := (.slice op os.length ocap)) rfl) rfl rfl ?_
              refine wr U ((rm U).to (v' := (.slice xp xs.length xcap)) rfl) rfl rfl ?_
              refine wr U ((rd_len' U sl_26 rfl).to (v' := (.int .i64 ((xs.length : Nat) : Int))) rfl) rfl rfl ?_
              refine wr U ((rm U).to (v' := (.int .i64 ((kk : Nat) : Int))) rfl) rfl rfl ?_
              refine wl_op U rfl rfl (op_call U Tryz.f10 rfl rfl pf_10 (by kernel_rfl) (by kernel_rfl) ((s10 U m E' _ _ os _ kk (by omega) (by omega) hg (by omega) _ _ (hvn.sub U hs15) hor).mono U ?_))
              rintro _ H6 N6 ⟨⟨b, rfl, hb⟩, hs6, hN6⟩
              obtain rfl : b = true := hb.2 ⟨by omega, by omega, hos.ok, by rw [hil]; exact cast_law (any_law hg hos hI)⟩
              have hbx6 := hs6 _ _ hbx5
              have hs16 := hs15.trans hs6
              refine wr U ((rd_pick U rfl).to (v' := (.bool true)) rfl) rfl rfl ?_
              refine wr U ((rm U).to (v' := (.bool true)) rfl) rfl rfl ?_
              refine wr U (rd_load2 U el_24 rfl (v0 := (.int .i64 ((m : Nat) : Int))) (v1 := sv)  (by rw [rrw U (by omega) hbx6]; rfl) (by rw [rrw U (by omega) hbx6]; rfl)) rfl rfl ?_
              refine wr U ((rm U).to (v' := (.slice op os.length ocap)) rfl) rfl rfl ?_
              refine wl_op U rfl rfl (op_call U Tryz.f7 rfl rfl pf_7 (by kernel_rfl) (by kernel_rfl) ((s7 U m E' _ _ (castL os) hg (by simp [castL]; omega) _ _ (hvn.sub U hs16) (by rw [ints_cast]; exact hor.sub U hs6)).mono U ?_))
              rintro _ H7 N7 ⟨⟨k7, rfl, hk7⟩, hs7, hN7⟩
              obtain rfl : k7 = 0 := hk7.2 ⟨os, rfl, hos.ok⟩
              refine wr U ((rd_eql U rfl rfl).to (v' := (.bool true)) (congrArg Value.bool (decide_eq_true rfl))) rfl rfl ?_
              refine wr U ((rd_pick U rfl).to (v' := (.bool true)) rfl) rfl rfl ?_
              refine wr U ((rm U).to (v' := (.bool true)) rfl) rfl rfl ?_
              refine wl_op U rfl rfl (op_call U Tryz.f8 rfl rfl pf_8 (by kernel_rfl) (by kernel_rfl) ((s8 U _ _).mono U ?_))
              rintro _ HZ NZ ⟨rfl, hsZ, hNZ⟩
              refine wr U ((rd_pick U rfl).to (v' := (.bool true)) rfl) rfl rfl ?_
              refine wr U ((ra U).to (v' := (.bool true)) rfl) rfl rfl ?_
              refine wz U ?_
              refine wc_ret U ?_
              repeat (first|refine ret1 ?_|refine ret2 ?_)
              exact end1 U (.inl rfl) rfl (v := (.bool true)) rfl ⟨rfl, (hs16.trans hs7).trans hsZ, by omega⟩
theorem s4 (n : Int) (E : List Ed) (sv rv : Value) (rss : List (List Int)) (hbl : ∀ xs ∈ rss, xs.length ≤ 4611686018427387904) (hbr : rss.length ≤ 4611686018427387904) (k s mm : Int) (H : Hp) (N : Nat) (hv : RdS U H sv 3 (ecs E)) (hr : Rd2I U H rv rss) : Spec U 4 #[(.agg #[(.int .i64 n), sv]), rv, (.int .i64 k), (.int .i64 s), (.int .i64 mm)] H N (fun v H' N' => v = .bool true ∧ Sub H H' ∧ N ≤ N') := by
  refine spa U pf_4 (m := 93) rfl rfl (by simp) fun hBN hlt => ?_
  obtain ⟨J, hJ⟩ := Has.ex (T := argsT #[(.agg #[(.int .i64 n), sv]), rv, (.int .i64 k), (.int .i64 s), (.int .i64 mm)]) (l := [(0, (.agg #[(.int .i64 n), sv])), (1, rv), (2, (.int .i64 k)), (3, (.int .i64 s)), (4, (.int .i64 mm))]) ⟨rfl, rfl, rfl, rfl, rfl, trivial⟩
  rw [hJ]; clear hJ
  repeat (first|refine nt ?_|refine nq ?_|refine wq U ?_)
  refine wg U ?_
  refine wl_op U rfl rfl (op_box U rfl rfl ?_)
  refine wr U ((ra U).to (v' := (.bool false)) rfl) rfl rfl ?_
  refine wz U ?_
  repeat (first|refine nt ?_|refine nq ?_)
  refine wc_gen U (fun R => R N = some (.row 24 0 [(.int .i64 n), sv] 2) ∧ Sub _ R) ⟨(by first|(rw [hsy]; done) | (rw [hsy]; rfl)), ((Sub.refl _).hset (fresh hlt (by omega)))⟩ ?_
  rintro H1 ⟨hx_2, hs1⟩ hBNH1 hltH1
  have hbx1 := hx_2
  repeat (first|refine nt ?_|refine nq ?_|refine wq U ?_)
  refine wg U ?_
  refine wr U (rd_load2 U el_24 rfl (v0 := (.int .i64 n)) (v1 := sv)  (by rw [rrw U (by omega) hbx1]; rfl) (by rw [rrw U (by omega) hbx1]; rfl)) rfl rfl ?_
  refine wr U ((rm U).to (v' := rv) rfl) rfl rfl ?_
  refine wl_op U rfl rfl (op_call U Tryz.f5 rfl rfl pf_5 (by kernel_rfl) (by kernel_rfl) ((s5 U n E _ rv rss hbl hbr _ _ (hv.sub U hs1) (hr.sub U hs1)).mono U ?_))
  rintro _ H2 N2 ⟨⟨bL, rfl, hbL⟩, hs2, hN2⟩
  have hbx2 := hs2 _ _ hbx1
  have hs12 := hs1.trans hs2
  cases bL
  · skip
    refine wr U ((rd_not U rfl).to (v' := (.bool true)) rfl) rfl rfl ?_
    refine wr U ((rm U).to (v' := (.bool true)) rfl) rfl rfl ?_
    refine wl_pass U rfl rfl ?_
    refine wl_pass U rfl rfl ?_
    refine wl_pass U rfl rfl ?_
    refine wl_pass U rfl rfl ?_
    refine wr U ((rd_pick U rfl).to (v' := (.bool true)) rfl) rfl rfl ?_
    refine wr U ((rm U).to (v' := (.bool true)) rfl) rfl rfl ?_
    refine wl_pass U rfl rfl ?_
    refine wl_pass U rfl rfl ?_
    refine wr U ((rd_pick U rfl).to (v' := (.bool true)) rfl) rfl rfl ?_
    refine wr U ((rm U).to (v' := (.bool true)) rfl) rfl rfl ?_
    refine wl_pass U rfl rfl ?_
    refine wl_pass U rfl rfl ?_
    refine wr U ((rd_pick U rfl).to (v' := (.bool true)) rfl) rfl rfl ?_
    refine wr U ((rm U).to (v' := (.bool true)) rfl) rfl rfl ?_
    refine wl_pass U rfl rfl ?_
    refine wl_pass U rfl rfl ?_
    refine wr U ((rd_pick U rfl).to (v' := (.bool true)) rfl) rfl rfl ?_
    refine wr U ((rm U).to (v' := (.bool true)) rfl) rfl rfl ?_
    refine wl_pass U rfl rfl ?_
    refine wl_pass U rfl rfl ?_
    refine wl_pass U rfl rfl ?_
    refine wr U ((rd_pick U rfl).to (v' := (.bool true)) rfl) rfl rfl ?_
    refine wz U ?_
    repeat (first|refine nt ?_|refine nq ?_|refine wq U ?_)
    refine wcd U (t := true) rfl (fun _ => ?_) (fun h => nomatch h)
    repeat (first|refine nt ?_|refine nq ?_|refine wq U ?_)
    refine wg U ?_
    refine wl_op U rfl rfl (op_call U Tryz.f8 rfl rfl pf_8 (by kernel_rfl) (by kernel_rfl) ((s8 U _ _).mono U ?_))
    rintro _ HZ NZ ⟨rfl, hsZ, hNZ⟩
    refine wr U ((ra U).to (v' := (.bool true)) rfl) rfl rfl ?_
    refine wz U ?_
    refine wc_ret U ?_
    repeat (first|refine ret1 ?_|refine ret2 ?_)
    exact end1 U (.inl rfl) rfl (v := (.bool true)) rfl ⟨rfl, hs12.trans hsZ, by omega⟩
  · skip
    refine wr U ((rd_not U rfl).to (v' := (.bool false)) rfl) rfl rfl ?_
    refine wr U ((rm U).to (v' := (.bool false)) rfl) rfl rfl ?_
    refine wr U (rd_load2 U el_24 rfl (v0 := (.int .i64 n)) (v1 := sv)  (by rw [rrw U (by omega) hbx2]; rfl) (by rw [rrw U (by omega) hbx2]; rfl)) rfl rfl ?_
    refine wr U ((rm U).to (v' := rv) rfl) rfl rfl ?_
    obtain ⟨hn24, hm96, hrl⟩ := hbL rfl
    refine wl_op U rfl rfl (op_call U Tryz.f6 rfl rfl pf_6 (by kernel_rfl) (by kernel_rfl) ((s6 U n E _ rv rss (by omega) (by omega) hrl _ _ (hv.sub U hs12) (hr.sub U hs12)).mono U ?_))
    rintro _ H3 N3 ⟨⟨kP, rfl, hkP⟩, hs3, hN3⟩
    have hbx3 := hs3 _ _ hbx2
    have hs13 := hs12.trans hs3
    by_cases h1_8 : kP ≠ 0
    · skip
      refine wr U ((rd_neq U rfl rfl).to (v' := (.bool true)) (congrArg Value.bool (decide_eq_true h1_8))) rfl rfl ?_
      refine wr U ((rd_pick U rfl).to (v' := (.bool true)) rfl) rfl rfl ?_
      refine wr U ((rm U).to (v' := (.bool true)) rfl) rfl rfl ?_
      refine wl_pass U rfl rfl ?_
      refine wl_pass U rfl rfl ?_
      refine wr U ((rd_pick U rfl).to (v' := (.bool true)) rfl) rfl rfl ?_
      refine wr U ((rm U).to (v' := (.bool true)) rfl) rfl rfl ?_
      refine wl_pass U rfl rfl ?_
      refine wl_pass U rfl rfl ?_
      refine wr U ((rd_pick U rfl).to (v' := (.bool true)) rfl) rfl rfl ?_
      refine wr U ((rm U).to (v' := (.bool true)) rfl) rfl rfl ?_
      refine wl_pass U rfl rfl ?_
      refine wl_pass U rfl rfl ?_
      refine wr U ((rd_pick U rfl).to (v' := (.bool true)) rfl) rfl rfl ?_
      refine wr U ((rm U).to (v' := (.bool true)) rfl) rfl rfl ?_
      refine wl_pass U rfl rfl ?_
      refine wl_pass U rfl rfl ?_
      refine wl_pass U rfl rfl ?_
      refine wr U ((rd_pick U rfl).to (v' := (.bool true)) rfl) rfl rfl ?_
      refine wz U ?_
      repeat (first|refine nt ?_|refine nq ?_|refine wq U ?_)
      refine wcd U (t := true) rfl (fun _ => ?_) (fun h => nomatch h)
      repeat (first|refine nt ?_|refine nq ?_|refine wq U ?_)
      refine wg U ?_
      refine wl_op U rfl rfl (op_call U Tryz.f8 rfl rfl pf_8 (by kernel_rfl) (by kernel_rfl) ((s8 U _ _).mono U ?_))
      rintro _ HZ NZ ⟨rfl, hsZ, hNZ⟩
      refine wr U ((ra U).to (v' := (.bool true)) rfl) rfl rfl ?_
      refine wz U ?_
      refine wc_ret U ?_
      repeat (first|refine ret1 ?_|refine ret2 ?_)
      exact end1 U (.inl rfl) rfl (v := (.bool true)) rfl ⟨rfl, hs13.trans hsZ, by omega⟩
    · skip
      refine wr U ((rd_neq U rfl rfl).to (v' := (.bool false)) (congrArg Value.bool (decide_eq_false h1_8))) rfl rfl ?_
      refine wr U ((rd_pick U rfl).to (v' := (.bool false)) rfl) rfl rfl ?_
      refine wr U ((rm U).to (v' := (.bool false)) rfl) rfl rfl ?_
      refine wr U ((rm U).to (v' := (.int .i64 k)) rfl) rfl rfl ?_
      by_cases h1_12 : k < 2
      · skip
        refine wr U ((rd_lss U rfl rfl).to (v' := (.bool true)) (congrArg Value.bool (decide_eq_true h1_12))) rfl rfl ?_
        refine wr U ((rd_pick U rfl).to (v' := (.bool true)) rfl) rfl rfl ?_
        refine wr U ((rm U).to (v' := (.bool true)) rfl) rfl rfl ?_
        refine wl_pass U rfl rfl ?_
        refine wl_pass U rfl rfl ?_
        refine wr U ((rd_pick U rfl).to (v' := (.bool true)) rfl) rfl rfl ?_
        refine wr U ((rm U).to (v' := (.bool true)) rfl) rfl rfl ?_
        refine wl_pass U rfl rfl ?_
        refine wl_pass U rfl rfl ?_
        refine wr U ((rd_pick U rfl).to (v' := (.bool true)) rfl) rfl rfl ?_
        refine wr U ((rm U).to (v' := (.bool true)) rfl) rfl rfl ?_
        refine wl_pass U rfl rfl ?_
        refine wl_pass U rfl rfl ?_
        refine wl_pass U rfl rfl ?_
        refine wr U ((rd_pick U rfl).to (v' := (.bool true)) rfl) rfl rfl ?_
        refine wz U ?_
        repeat (first|refine nt ?_|refine nq ?_|refine wq U ?_)
        refine wcd U (t := true) rfl (fun _ => ?_) (fun h => nomatch h)
        repeat (first|refine nt ?_|refine nq ?_|refine wq U ?_)
        refine wg U ?_
        refine wl_op U rfl rfl (op_call U Tryz.f8 rfl rfl pf_8 (by kernel_rfl) (by kernel_rfl) ((s8 U _ _).mono U ?_))
        rintro _ HZ NZ ⟨rfl, hsZ, hNZ⟩
        refine wr U ((ra U).to (v' := (.bool true)) rfl) rfl rfl ?_
        refine wz U ?_
        refine wc_ret U ?_
        repeat (first|refine ret1 ?_|refine ret2 ?_)
        exact end1 U (.inl rfl) rfl (v := (.bool true)) rfl ⟨rfl, hs13.trans hsZ, by omega⟩
      · skip
        refine wr U ((rd_lss U rfl rfl).to (v' := (.bool false)) (congrArg Value.bool (decide_eq_false h1_12))) rfl rfl ?_
        refine wr U ((rd_pick U rfl).to (v' := (.bool false)) rfl) rfl rfl ?_
        refine wr U ((rm U).to (v' := (.bool false)) rfl) rfl rfl ?_
        refine wr U ((rm U).to (v' := (.int .i64 k)) rfl) rfl rfl ?_
        by_cases h1_16 : 8 < k
        · skip
          refine wr U ((rd_gtr U rfl rfl).to (v' := (.bool true)) (congrArg Value.bool (decide_eq_true h1_16))) rfl rfl ?_
          refine wr U ((rd_pick U rfl).to (v' := (.bool true)) rfl) rfl rfl ?_
          refine wr U ((rm U).to (v' := (.bool true)) rfl) rfl rfl ?_
          refine wl_pass U rfl rfl ?_
          refine wl_pass U rfl rfl ?_
          refine wr U ((rd_pick U rfl).to (v' := (.bool true)) rfl) rfl rfl ?_
          refine wr U ((rm U).to (v' := (.bool true)) rfl) rfl rfl ?_
          refine wl_pass U rfl rfl ?_
          refine wl_pass U rfl rfl ?_
          refine wl_pass U rfl rfl ?_
          refine wr U ((rd_pick U rfl).to (v' := (.bool true)) rfl) rfl rfl ?_
          refine wz U ?_
          repeat (first|refine nt ?_|refine nq ?_|refine wq U ?_)
          refine wcd U (t := true) rfl (fun _ => ?_) (fun h => nomatch h)
          repeat (first|refine nt ?_|refine nq ?_|refine wq U ?_)
          refine wg U ?_
          refine wl_op U rfl rfl (op_call U Tryz.f8 rfl rfl pf_8 (by kernel_rfl) (by kernel_rfl) ((s8 U _ _).mono U ?_))
          rintro _ HZ NZ ⟨rfl, hsZ, hNZ⟩
          refine wr U ((ra U).to (v' := (.bool true)) rfl) rfl rfl ?_
          refine wz U ?_
          refine wc_ret U ?_
          repeat (first|refine ret1 ?_|refine ret2 ?_)
          exact end1 U (.inl rfl) rfl (v := (.bool true)) rfl ⟨rfl, hs13.trans hsZ, by omega⟩
        · skip
          refine wr U ((rd_gtr U rfl rfl).to (v' := (.bool false)) (congrArg Value.bool (decide_eq_false h1_16))) rfl rfl ?_
          refine wr U ((rd_pick U rfl).to (v' := (.bool false)) rfl) rfl rfl ?_
          refine wr U ((rm U).to (v' := (.bool false)) rfl) rfl rfl ?_
          refine wr U ((rm U).to (v' := (.int .i64 s)) rfl) rfl rfl ?_
          by_cases h1_20 : s < 0
          · skip
            refine wr U ((rd_lss U rfl rfl).to (v' := (.bool true)) (congrArg Value.bool (decide_eq_true h1_20))) rfl rfl ?_
            refine wr U ((rd_pick U rfl).to (v' := (.bool true)) rfl) rfl rfl ?_
            refine wr U ((rm U).to (v' := (.bool true)) rfl) rfl rfl ?_
            refine wl_pass U rfl rfl ?_
            refine wl_pass U rfl rfl ?_
            refine wl_pass U rfl rfl ?_
            refine wr U ((rd_pick U rfl).to (v' := (.bool true)) rfl) rfl rfl ?_
            refine wz U ?_
            repeat (first|refine nt ?_|refine nq ?_|refine wq U ?_)
            refine wcd U (t := true) rfl (fun _ => ?_) (fun h => nomatch h)
            repeat (first|refine nt ?_|refine nq ?_|refine wq U ?_)
            refine wg U ?_
            refine wl_op U rfl rfl (op_call U Tryz.f8 rfl rfl pf_8 (by kernel_rfl) (by kernel_rfl) ((s8 U _ _).mono U ?_))
            rintro _ HZ NZ ⟨rfl, hsZ, hNZ⟩
            refine wr U ((ra U).to (v' := (.bool true)) rfl) rfl rfl ?_
            refine wz U ?_
            refine wc_ret U ?_
            repeat (first|refine ret1 ?_|refine ret2 ?_)
            exact end1 U (.inl rfl) rfl (v := (.bool true)) rfl ⟨rfl, hs13.trans hsZ, by omega⟩
          · skip
            refine wr U ((rd_lss U rfl rfl).to (v' := (.bool false)) (congrArg Value.bool (decide_eq_false h1_20))) rfl rfl ?_
            refine wr U ((rd_pick U rfl).to (v' := (.bool false)) rfl) rfl rfl ?_
            refine wr U ((rm U).to (v' := (.bool false)) rfl) rfl rfl ?_
            refine wr U ((rm U).to (v' := (.int .i64 s)) rfl) rfl rfl ?_
            refine wr U ((rm U).to (v' := (.int .i64 k)) rfl) rfl rfl ?_
            by_cases h1_25 : k < s
            · skip
              refine wr U ((rd_gtr U rfl rfl).to (v' := (.bool true)) (congrArg Value.bool (decide_eq_true h1_25))) rfl rfl ?_
              refine wr U ((rd_pick U rfl).to (v' := (.bool true)) rfl) rfl rfl ?_
              refine wz U ?_
              repeat (first|refine nt ?_|refine nq ?_|refine wq U ?_)
              refine wcd U (t := true) rfl (fun _ => ?_) (fun h => nomatch h)
              repeat (first|refine nt ?_|refine nq ?_|refine wq U ?_)
              refine wg U ?_
              refine wl_op U rfl rfl (op_call U Tryz.f8 rfl rfl pf_8 (by kernel_rfl) (by kernel_rfl) ((s8 U _ _).mono U ?_))
              rintro _ HZ NZ ⟨rfl, hsZ, hNZ⟩
              refine wr U ((ra U).to (v' := (.bool true)) rfl) rfl rfl ?_
              refine wz U ?_
              refine wc_ret U ?_
              repeat (first|refine ret1 ?_|refine ret2 ?_)
              exact end1 U (.inl rfl) rfl (v := (.bool true)) rfl ⟨rfl, hs13.trans hsZ, by omega⟩
            · skip
              refine wr U ((rd_gtr U rfl rfl).to (v' := (.bool false)) (congrArg Value.bool (decide_eq_false h1_25))) rfl rfl ?_
              refine wr U ((rd_pick U rfl).to (v' := (.bool false)) rfl) rfl rfl ?_
              refine wz U ?_
              repeat (first|refine nt ?_|refine nq ?_|refine wq U ?_)
              refine wcd U (t := false) rfl (fun h => nomatch h) fun _ => ?_
              refine wsk U ?_
              repeat (first|refine nt ?_|refine nq ?_)
              obtain ⟨m, E', rs, hnm, hEE, hg, hrr, hP⟩ := hkP (by omega)
              subst hnm; subst hEE; subst hrr
              have hvn : RdS U H sv 3 (necs E') := by rw [← ecs_nE]; exact hv
              have hrn := hr.nat U
              obtain ⟨kk, rfl⟩ : ∃ kk : Nat, k = ((kk : Nat) : Int) := ⟨k.toNat, by omega⟩
              obtain ⟨ss, rfl⟩ : ∃ ss : Nat, s = ((ss : Nat) : Int) := ⟨s.toNat, by omega⟩
              repeat (first|refine nt ?_|refine nq ?_|refine wq U ?_)
              refine wg U ?_
              refine wr U (rd_load2 U el_24 rfl (v0 := (.int .i64 ((m : Nat) : Int))) (v1 := sv)  (by rw [rrw U (by omega) hbx3]; rfl) (by rw [rrw U (by omega) hbx3]; rfl)) rfl rfl ?_
              refine wr U ((rm U).to (v' := rv) rfl) rfl rfl ?_
              refine wr U ((rm U).to (v' := (.int .i64 ((kk : Nat) : Int))) rfl) rfl rfl ?_
              refine wl_op U rfl rfl (op_call U Tryz.f9 rfl rfl pf_9 (by kernel_rfl) (by kernel_rfl) ((s9 U m kk E' _ rv rs hg (by omega) hP (by omega) (by omega) _ _ (hvn.sub U hs13) (hrn.sub U hs13)).mono U ?_))
              rintro _ H5 N5 ⟨ov, os, rfl, hor, hos, hs5, hN5⟩
              obtain ⟨op, ocap, rfl, hoc, hop⟩ := hor.nums U
              have hbx5 := hs5 _ _ hbx3
              have hs15 := hs13.trans hs5
              refine wr U ((rm U).to (v' := (.tuple #[(.slice op os.length ocap), (.int .i64 0)])) rfl) rfl rfl ?_
              refine wr U ((rd_extract U rfl rfl).to (v' := (.slice op os.length ocap)) rfl) rfl rfl ?_
              refine wr U ((rd_extract U rfl rfl).to (v' := (.int .i64 0)) rfl) rfl rfl ?_
              refine wr U ((ra U).to (v' := (.slice op os.length ocap)) rfl) rfl rfl ?_
              refine wr U ((ra U).to (v' := (.int .i64 0)) rfl) rfl rfl ?_
              refine wz U ?_
              have hol := nodup_len m os (hos.ok.1.imp Nat.ne_of_lt) hos.ok.2.1
              repeat (first|refine nt ?_|refine nq ?_|refine wq U ?_)
              refine wg U ?_
              refine wr U (rd_load2 U el_24 rfl (v0 := (.int .i64 ((m : Nat) : Int))) (v1 := sv)  (by rw [rrw U (by omega) hbx5]; rfl) (by rw [rrw U (by omega) hbx5]; rfl)) rfl rfl ?_
              refine wr U ((rm U).to (v' := (.int .i64 ((kk : Nat) : Int))) rfl) rfl rfl ?_
              refine wr U ((rm U).to (v' := (.int .i64 ((ss : Nat) : Int))) rfl) rfl rfl ?_
              refine wl_op U rfl rfl (op_call U Tryz.f11 rfl rfl pf_11 (by kernel_rfl) (by kernel_rfl) ((s11 U m kk ss E' _ hg (by omega) (by omega) (by omega) (by omega) _ _ (hvn.sub U hs15)).mono U ?_))
              rintro _ H6 N6 ⟨bv, bs, rfl, hbsr, hbss, hbb, hs6, hN6⟩
              obtain ⟨bp, bcap, rfl, hbc, hbp⟩ := hbsr.nums U
              have hbx6 := hs6 _ _ hbx5
              have hs16 := hs15.trans hs6
              refine wr U ((rm U).to (v' := (.tuple #[(.slice bp bs.length bcap), (.int .i64 0)])) rfl) rfl rfl ?_
              refine wr U ((rd_extract U rfl rfl).to (v' := (.slice bp bs.length bcap)) rfl) rfl rfl ?_
              refine wr U ((rd_extract U rfl rfl).to (v' := (.int .i64 0)) rfl) rfl rfl ?_
              refine wr U ((ra U).to (v' := (.slice bp bs.length bcap)) rfl) rfl rfl ?_
              refine wr U ((ra U).to (v' := (.int .i64 0)) rfl) rfl rfl ?_
              refine wz U ?_
              have hbI : IndOk m E' bs := best_ok hbss hbb fun v h => h.1
              have hble := hos.max ss (by omega) bs hbb
              repeat (first|refine nt ?_|refine nq ?_|refine wq U ?_)
              refine wg U ?_
              refine wr U ((rm U).to (v' := (.int .i64 0)) rfl) rfl rfl ?_
              refine wr U ((rd_neq U rfl rfl).to (v' := (.bool false)) (congrArg Value.bool (decide_eq_false (by omega)))) rfl rfl ?_
              refine wr U ((rm U).to (v' := (.bool false)) rfl) rfl rfl ?_
              refine wr U ((rm U).to (v' := (.int .i64 0)) rfl) rfl rfl ?_
              refine wr U ((rd_neq U rfl rfl).to (v' := (.bool false)) (congrArg Value.bool (decide_eq_false (by omega)))) rfl rfl ?_
              refine wr U ((rd_pick U rfl).to (v' := (.bool false)) rfl) rfl rfl ?_
              refine wr U ((rm U).to (v' := (.bool false)) rfl) rfl rfl ?_
              refine wr U ((rm U).to (v' := (.slice bp bs.length bcap)) rfl) rfl rfl ?_
              refine wr U ((rd_len' U sl_26 rfl).to (v' := (.int .i64 ((bs.length : Nat) : Int))) rfl) rfl rfl ?_
              refine wr U ((rm U).to (v' := (.slice op os.length ocap)) rfl) rfl rfl ?_
              refine wr U ((rd_len' U sl_26 rfl).to (v' := (.int .i64 ((os.length : Nat) : Int))) rfl) rfl rfl ?_
              refine wr U ((rd_gtr U rfl rfl).to (v' := (.bool false)) (congrArg Value.bool (decide_eq_false (by omega)))) rfl rfl ?_
              refine wr U ((rd_pick U rfl).to (v' := (.bool false)) rfl) rfl rfl ?_
              refine wr U ((rm U).to (v' := (.bool false)) rfl) rfl rfl ?_
              refine wr U (rd_load2 U el_24 rfl (v0 := (.int .i64 ((m : Nat) : Int))) (v1 := sv)  (by rw [rrw U (by omega) hbx6]; rfl) (by rw [rrw U (by omega) hbx6]; rfl)) rfl rfl ?_
              refine wr U ((rm U).to (v' := (.slice bp bs.length bcap)) rfl) rfl rfl ?_
              refine wl_op U rfl rfl (op_call U Tryz.f7 rfl rfl pf_7 (by kernel_rfl) (by kernel_rfl) ((s7 U m E' _ _ (castL bs) hg (by simp [castL]; omega) _ _ (hvn.sub U hs16) (by rw [ints_cast]; exact hbsr)).mono U ?_))
              rintro _ H7 N7 ⟨⟨k7, rfl, hk7⟩, hs7, hN7⟩
              obtain rfl : k7 = 0 := hk7.2 ⟨bs, rfl, hbI⟩
              have hbx7 := hs7 _ _ hbx6
              have hs17 := hs16.trans hs7
              refine wr U ((rd_neq U rfl rfl).to (v' := (.bool false)) (congrArg Value.bool (decide_eq_false (by omega)))) rfl rfl ?_
              refine wr U ((rd_pick U rfl).to (v' := (.bool false)) rfl) rfl rfl ?_
              refine wz U ?_
              repeat (first|refine nt ?_|refine nq ?_|refine wq U ?_)
              refine wcd U (t := false) rfl (fun h => nomatch h) fun _ => ?_
              refine wsk U ?_
              repeat (first|refine nt ?_|refine nq ?_)
              have hor7 := hor.sub U (hs6.trans hs7)
              repeat (first|refine nt ?_|refine nq ?_|refine wq U ?_)
              refine wg U ?_
              refine wr U (rd_load2 U el_24 rfl (v0 := (.int .i64 ((m : Nat) : Int))) (v1 := sv)  (by rw [rrw U (by omega) hbx7]; rfl) (by rw [rrw U (by omega) hbx7]; rfl)) rfl rfl ?_
              refine wr U ((rm U).to (v' := (.slice op os.length ocap)) rfl) rfl rfl ?_
              refine wr U ((rm U).to (v' := (.int .i64 mm)) rfl) rfl rfl ?_
              refine wr U ((rm U).to (v' := (.int .i64 ((kk : Nat) : Int))) rfl) rfl rfl ?_
              refine wl_op U rfl rfl (op_call U Tryz.f10 rfl rfl pf_10 (by kernel_rfl) (by kernel_rfl) ((s10 U m E' _ _ os mm kk (by omega) (by omega) hg (by omega) _ _ (hvn.sub U hs17) hor7).mono U ?_))
              rintro _ H8 N8 ⟨⟨b, rfl, hb⟩, hs8, hN8⟩
              have hbx8 := hs8 _ _ hbx7
              have hs18 := hs17.trans hs8
              cases b
              · skip
                refine wr U ((rd_not U rfl).to (v' := (.bool true)) rfl) rfl rfl ?_
                refine wr U ((rm U).to (v' := (.bool true)) rfl) rfl rfl ?_
                refine wl_pass U rfl rfl ?_
                refine wl_pass U rfl rfl ?_
                refine wl_pass U rfl rfl ?_
                refine wl_pass U rfl rfl ?_
                refine wl_pass U rfl rfl ?_
                refine wl_pass U rfl rfl ?_
                refine wr U ((rd_pick U rfl).to (v' := (.bool true)) rfl) rfl rfl ?_
                refine wr U ((rm U).to (v' := (.bool true)) rfl) rfl rfl ?_
                refine wl_op U rfl rfl (op_call U Tryz.f8 rfl rfl pf_8 (by kernel_rfl) (by kernel_rfl) ((s8 U _ _).mono U ?_))
                rintro _ HZ NZ ⟨rfl, hsZ, hNZ⟩
                refine wr U ((rd_pick U rfl).to (v' := (.bool true)) rfl) rfl rfl ?_
                refine wr U ((ra U).to (v' := (.bool true)) rfl) rfl rfl ?_
                refine wz U ?_
                refine wc_ret U ?_
                repeat (first|refine ret1 ?_|refine ret2 ?_)
                exact end1 U (.inl rfl) rfl (v := (.bool true)) rfl ⟨rfl, hs18.trans hsZ, by omega⟩
              · skip
                refine wr U ((rd_not U rfl).to (v' := (.bool false)) rfl) rfl rfl ?_
                refine wr U ((rm U).to (v' := (.bool false)) rfl) rfl rfl ?_
                refine wr U (rd_load2 U el_24 rfl (v0 := (.int .i64 ((m : Nat) : Int))) (v1 := sv)  (by rw [rrw U (by omega) hbx8]; rfl) (by rw [rrw U (by omega) hbx8]; rfl)) rfl rfl ?_
                refine wr U ((rm U).to (v' := (.slice op os.length ocap)) rfl) rfl rfl ?_
                refine wr U ((rm U).to (v' := (.int .i64 mm)) rfl) rfl rfl ?_
                refine wr U ((rm U).to (v' := (.int .i64 ((kk : Nat) : Int))) rfl) rfl rfl ?_
                refine wr U ((rd_sub' U rfl rfl (by omega) (by omega)).to (v' := (.int .i64 ((kk - 1 : Nat) : Int))) (congrArg (Value.int .i64) (by omega))) rfl rfl ?_
                refine wl_op U rfl rfl (op_call U Tryz.f10 rfl rfl pf_10 (by kernel_rfl) (by kernel_rfl) ((s10 U m E' _ _ os mm (kk - 1) (by omega) (by omega) hg (by omega) _ _ (hvn.sub U hs18) (hor7.sub U hs8)).mono U ?_))
                rintro _ H9 N9 ⟨⟨b2, rfl, hb2⟩, hs9, hN9⟩
                obtain rfl : b2 = true := by
                  obtain ⟨q1, q2, q3, q4⟩ := hb.1 rfl
                  exact hb2.2 ⟨q1, q2, q3, less_law (by omega) q1 q4⟩
                have hs19 := hs18.trans hs9
                refine wr U ((rd_pick U rfl).to (v' := (.bool true)) rfl) rfl rfl ?_
                refine wr U ((rm U).to (v' := (.bool true)) rfl) rfl rfl ?_
                refine wl_op U rfl rfl (op_call U Tryz.f8 rfl rfl pf_8 (by kernel_rfl) (by kernel_rfl) ((s8 U _ _).mono U ?_))
                rintro _ HZ NZ ⟨rfl, hsZ, hNZ⟩
                refine wr U ((rd_pick U rfl).to (v' := (.bool true)) rfl) rfl rfl ?_
                refine wr U ((ra U).to (v' := (.bool true)) rfl) rfl rfl ?_
                refine wz U ?_
                refine wc_ret U ?_
                repeat (first|refine ret1 ?_|refine ret2 ?_)
                exact end1 U (.inl rfl) rfl (v := (.bool true)) rfl ⟨rfl, hs19.trans hsZ, by omega⟩
end Go.Proofs.YtdmodppoellbkaaGreat
