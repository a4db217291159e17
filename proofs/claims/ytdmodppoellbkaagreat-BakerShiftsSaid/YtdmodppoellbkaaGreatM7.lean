/-
The reference: rotations, faces, components, Plane.
-/
import Derived.Test.YtdmodppoellbkaaGreatM6
set_option linter.unusedVariables false
set_option linter.unusedSimpArgs false
namespace Go.Proofs.YtdmodppoellbkaaGreat
open Go Go.RowKit
variable (U : Cx)
theorem perm_ofI {L xs : List Int} (hL : L.Nodup) (hs : ∀ v ∈ L, v ∈ xs) (hl : xs.length = L.length) : xs.Perm L := by
  induction L generalizing xs with
  | nil => have : xs = [] := List.length_eq_zero_iff.1 (by simpa using hl)
           subst this; exact List.Perm.refl _
  | cons a L ih =>
    have ha : a ∈ xs := hs a (by simp)
    rw [List.nodup_cons] at hL
    have h1 := ih (xs := xs.erase a) hL.2 (fun v hv => (List.mem_erase_of_ne (fun e => hL.1 (by rw [← e]; exact hv))).2 (hs v (by simp [hv]))) (by rw [List.length_erase_of_mem ha]; simp at hl; omega)
    exact (List.perm_cons_erase ha).trans (h1.cons a)
theorem perm_nat {L : List Nat} {xs : List Int} (hL : L.Nodup) (hs : ∀ v ∈ L, ((v : Nat) : Int) ∈ xs) (hl : xs.length = L.length) : ∃ r : List Nat, xs = r.map (fun v => ((v : Nat) : Int)) ∧ r.Perm L := by
  have h1 : xs.Perm (L.map fun v => ((v : Nat) : Int)) := perm_ofI (by rw [List.nodup_iff_pairwise_ne, List.pairwise_map]; exact (List.nodup_iff_pairwise_ne.1 hL).imp (fun h e => h (by omega))) (fun v hv => by obtain ⟨u, hu, rfl⟩ := List.mem_map.1 hv; exact hs u hu) (by simpa using hl)
  refine ⟨xs.map Int.toNat, ?_, ?_⟩
  · rw [List.map_map]; conv => lhs; rw [← List.map_id xs]
    refine List.map_congr_left fun x hx => ?_
    obtain ⟨u, _, rfl⟩ := List.mem_map.1 (h1.mem_iff.1 hx); simp
  · have := h1.map Int.toNat; rw [List.map_map] at this
    refine this.trans (List.Perm.of_eq ?_)
    conv => rhs; rw [← List.map_id L]
    exact List.map_congr_left fun x _ => by simp
def castL (r : List Nat) : List Int := r.map fun v => ((v : Nat) : Int)
theorem ints_cast (r : List Nat) : ints (castL r) = nats r := by simp [ints, nats, castL]
def Rd2I (F : Hp) (v : Value) (xss : List (List Int)) : Prop :=
  ∃ vs, RdS U F v 1 vs ∧ vs.length = xss.length ∧ ∀ (i : Nat) (u : Value) (xs : List Int), vs[i]? = some u → xss[i]? = some xs → RdS U F u 1 (ints xs)
theorem Rd2I.sub {F H : Hp} {v : Value} {xss : List (List Int)} (h : Rd2I U F v xss) (hs : Sub F H) : Rd2I U H v xss := by
  obtain ⟨vs, h1, h2, h3⟩ := h
  exact ⟨vs, h1.sub U hs, h2, fun i u xs hu hx => (h3 i u xs hu hx).sub U hs⟩
theorem Rd2I.nat {F : Hp} {v : Value} {rs : List (List Nat)} (h : Rd2I U F v (rs.map castL)) : Rd2 U F v rs := by
  obtain ⟨vs, h1, h2, h3⟩ := h
  exact ⟨vs, h1, by simpa using h2, fun i u xs hu hx => by rw [← ints_cast]; exact h3 i u _ hu (by rw [List.getElem?_map, hx]; rfl)⟩
def rowOk (n : Nat) (E : List NE) (rss : List (List Int)) (a : Nat) : Prop := ∀ xs, rss[a]? = some xs → xs.length = (nrL E a n).length ∧ ∀ v ∈ nrL E a n, ((v : Nat) : Int) ∈ xs
theorem nrL_nodup (E : List NE) (a n : Nat) : (nrL E a n).Nodup := List.Pairwise.filter _ List.nodup_range
theorem rot_of {n : Nat} {E : List NE} {rss : List (List Int)} (hg : GOk n E) (hl : rss.length = n) (h : ∀ a, a < n → rowOk n E rss a) : ∃ rs : List (List Nat), rss = rs.map castL ∧ Rot n E rs := by
  have key : ∀ a (ha : a < rss.length), ∃ r : List Nat, rss[a] = castL r ∧ r.Perm (nrL E a n) := fun a ha => by
    obtain ⟨h1, h2⟩ := h a (by omega) _ (List.getElem?_eq_getElem ha)
    exact perm_nat (nrL_nodup E a n) h2 h1
  have key2 : rss = (rss.map fun xs => xs.map Int.toNat).map castL := by
    rw [List.map_map]; conv => lhs; rw [← List.map_id rss]
    refine List.map_congr_left fun xs hx => ?_
    obtain ⟨a, ha, rfl⟩ := List.mem_iff_getElem.1 hx
    obtain ⟨r, hr, _⟩ := key a ha
    rw [hr]; simp [castL, Function.comp_def]
  have row : ∀ a, ((rss.map fun xs => xs.map Int.toNat).getD a []).Perm (nrL E a n) := fun a => by
    rcases Nat.lt_or_ge a rss.length with ha | ha
    · obtain ⟨r, hr, hp⟩ := key a ha
      simp only [List.getD_eq_getElem?_getD, List.getElem?_map, List.getElem?_eq_getElem ha, Option.map_some, Option.getD_some, hr]
      have : (castL r).map Int.toNat = r := by simp [castL, Function.comp_def]
      rw [this]; exact hp
    · have e : nrL E a n = [] := by
        unfold nrL; rw [List.filter_eq_nil_iff]; intro v hv; simp only [decide_eq_true_eq]; intro had; have := (hg.adj_lt had).1; omega
      rw [e]; simp [List.getD_eq_getElem?_getD, ha]
  refine ⟨_, key2, ⟨by simpa using hl, fun a => (row a).nodup_iff.2 (nrL_nodup E a n), fun a u => ?_⟩⟩
  rw [(row a).mem_iff, nrL, List.mem_filter, List.mem_range, decide_eq_true_eq]
  exact ⟨fun h => h.2, fun h => ⟨(hg.adj_lt h).2.1, h⟩⟩
def RotI (n : Int) (E : List Ed) (rss : List (List Int)) : Prop := ∃ (m : Nat) (E' : List NE) (rs : List (List Nat)), n = ((m : Nat) : Int) ∧ E = E'.map nE ∧ GOk m E' ∧ rss = rs.map castL ∧ Rot m E' rs
theorem s13 (n : Int) (E : List Ed) (sv rv : Value) (rss : List (List Int)) (hn : n ≤ 64) (hm : E.length ≤ 1000) (hrl : ∀ xs ∈ rss, xs.length ≤ 1000) (H : Hp) (N : Nat) (hv : RdS U H sv 3 (ecs E)) (hr : Rd2I U H rv rss) : Spec U 13 #[(.agg #[(.int .i64 n), sv]), rv] H N (fun v H' N' => (∃ k : Int, v = .int .i64 k ∧ (k = 0 → RotI n E rss)) ∧ Sub H H' ∧ N ≤ N') := by
  obtain ⟨vs, hvs, hvl, hrow⟩ := hr
  obtain ⟨p, cap, rfl, hc, hp⟩ := hvs.cells1 U
  refine spa U pf_13 (m := 57) rfl rfl (by simp) fun hBN hlt => ?_
  obtain ⟨J, hJ⟩ := Has.ex (T := argsT #[(.agg #[(.int .i64 n), sv]), (.slice p vs.length cap)]) (l := [(0, (.agg #[(.int .i64 n), sv])), (1, (.slice p vs.length cap))]) ⟨rfl, rfl, trivial⟩
  rw [hJ]; clear hJ
  repeat (first|refine nt ?_|refine nq ?_|refine wq U ?_)
  refine wg U ?_
  refine wl_op U rfl rfl (op_box U rfl rfl ?_)
  refine wr U ((ra U).to (v' := (.int .i64 0)) rfl) rfl rfl ?_
  refine wz U ?_
  repeat (first|refine nt ?_|refine nq ?_)
  refine wc_gen U (fun R => R N = some (.row 24 0 [(.int .i64 n), sv] 2) ∧ Sub _ R) ⟨(by first|(rw [hsy]; done) | (rw [hsy]; rfl)), ((Sub.refl _).hset (fresh hlt (by omega)))⟩ ?_
  rintro H1 ⟨hx_1, hs1⟩ hBNH1 hltH1
  repeat (first|refine nt ?_|refine nq ?_|refine wq U ?_)
  refine wg U ?_
  refine wr U (rd_load2 U el_24 rfl (v0 := (.int .i64 n)) (v1 := sv)  (by rw [rrw U (by omega) hx_1]; rfl) (by rw [rrw U (by omega) hx_1]; rfl)) rfl rfl ?_
  refine wl_op U rfl rfl (op_call U Tryz.f15 rfl rfl pf_15 (by kernel_rfl) (by kernel_rfl) ((s15 U n E _ hn hm _ _ (hv.sub U hs1)).mono U ?_))
  rintro _ H2 N2 ⟨⟨k0, rfl, hk0⟩, hs2, hN2⟩
  refine wr U (rd_neq U rfl rfl) rfl rfl ?_
  refine wz U ?_
  have hb2 : H2 N = _ := hs2 _ _ hx_1
  have hs12 := hs1.trans hs2
  repeat (first|refine nt ?_|refine nq ?_|refine wq U ?_)
  refine wcd U (t := (decide (k0 ≠ 0))) rfl (fun hk => ?_) fun hk => ?_
  · replace hk := of_decide_eq_true hk
    repeat (first|refine nt ?_|refine nq ?_|refine wq U ?_)
    refine wg U ?_
    refine wr U ((ra U).to (v' := (.int .i64 1)) rfl) rfl rfl ?_
    refine wz U ?_
    refine wc_ret U ?_
    repeat (first|refine ret1 ?_|refine ret2 ?_)
    exact end1 U (.inl rfl) rfl (v := (.int .i64 1)) rfl ⟨⟨_, rfl, fun h => absurd h (by decide)⟩, hs12, by omega⟩
  · replace hk := of_decide_eq_false hk
    obtain ⟨m, E', hnm, rfl, hg⟩ := (hk0.1 (by omega)).gok hn hm
    rw [ecs_nE] at hv
    subst hnm
    refine wsk U ?_
    repeat (first|refine nt ?_|refine nq ?_)
    repeat (first|refine nt ?_|refine nq ?_|refine wq U ?_)
    refine wg U ?_
    refine wr U ((rm U).to (v' := (.slice p vs.length cap)) rfl) rfl rfl ?_
    refine wr U ((rd_len' U sl_25 rfl).to (v' := (.int .i64 ((vs.length : Nat) : Int))) rfl) rfl rfl ?_
    refine wr U ((rfa U fb_24_0 rfl).to (v' := (.pointer (some ⟨N, 0, none⟩))) rfl) rfl rfl ?_
    refine wr U (rl1 U el_3 rfl (v := (.int .i64 ((m : Nat) : Int))) (by rw [rrw U (by omega) hb2]; rfl)) rfl rfl ?_
    refine wr U (rd_neq U rfl rfl) rfl rfl ?_
    refine wz U ?_
    repeat (first|refine nt ?_|refine nq ?_|refine wq U ?_)
    refine wcd U (t := (decide (((vs.length : Nat) : Int) ≠ ((m : Nat) : Int)))) rfl (fun hlen => ?_) fun hlen => ?_
    · replace hlen := of_decide_eq_true hlen
      repeat (first|refine nt ?_|refine nq ?_|refine wq U ?_)
      refine wg U ?_
      refine wr U ((ra U).to (v' := (.int .i64 12)) rfl) rfl rfl ?_
      refine wz U ?_
      refine wc_ret U ?_
      repeat (first|refine ret1 ?_|refine ret2 ?_)
      exact end1 U (.inl rfl) rfl (v := (.int .i64 12)) rfl ⟨⟨_, rfl, fun h => absurd h (by decide)⟩, hs12, by omega⟩
    · replace hlen := of_decide_eq_false hlen
      refine wsk U ?_
      repeat (first|refine nt ?_|refine nq ?_)
      have hlm : vs.length = m := by omega
      obtain ⟨X, hX⟩ : ∃ X, ((List.range m).map fun a => nrL E' a m) = X := ⟨_, rfl⟩
      have hXl : X.length = m := by rw [← hX]; simp
      have hXa : ∀ a, a < m → X[a]? = some (nrL E' a m) := fun a ha => by rw [← hX]; simp [ha]
      repeat (first|refine nt ?_|refine nq ?_|refine wq U ?_)
      refine wg U ?_
      refine wr U (rd_load2 U el_24 rfl (v0 := (.int .i64 ((m : Nat) : Int))) (v1 := sv)  (by rw [rrw U (by omega) hb2]; rfl) (by rw [rrw U (by omega) hb2]; rfl)) rfl rfl ?_
      refine wl_op U rfl rfl (op_call U Tryz.f23 rfl rfl pf_23 (by kernel_rfl) (by kernel_rfl) ((s23 U m E' _ hg _ _ (hv.sub U hs12)).mono U ?_))
      rintro nv H3 N3 ⟨hnr, hs3, hN3⟩
      rw [hX] at hnr
      obtain ⟨np, ncap, nus, rfl, hnp, hnu, hnus⟩ := hnr.open U
      refine wr U ((ra U).to (v' := (.slice np X.length ncap)) rfl) rfl rfl ?_
      refine wz U ?_
      have hb3 := hs3 _ _ hb2
      have hs13 := hs12.trans hs3
      have hvs3 := hvs.sub U hs13
      refine wc_own U fun hBN3 hlt3 => ?_
      have hnul := hnus.1
      repeat (first|refine nt ?_|refine nq ?_|refine wq U ?_)
      refine wg U ?_
      refine wr U ((ra U).to (v' := (.int .i64 0)) rfl) rfl rfl ?_
      refine wz U ?_
      repeat (first|refine nt ?_|refine nq ?_|refine wq U ?_)
      refine wc_block U ?_
      refine wc_loop U (fun q T H' N' => ∃ (i : Nat), i ≤ m ∧ q = m - i ∧ Has T [(1, (.slice p vs.length cap)), (2, (.pointer (some ⟨N, 0, none⟩))), (5, (.slice np X.length ncap)), (6, (.int .i64 ((i : Nat) : Int)))] ∧ (∀ a, a < i → rowOk m E' rss a) ∧ H3 = H' ∧ N3 = N') m ⟨0, Nat.zero_le _, rfl, ⟨rfl, rfl, rfl, rfl, trivial⟩, fun a h => by omega, rfl, rfl⟩ ?_
      rintro q T _ _ ⟨i, hi, rfl, hT, hok, rfl, rfl⟩
      obtain ⟨J, rfl⟩ := hT.ex
      repeat (first|refine nt ?_|refine nq ?_|refine wq U ?_)
      refine wg U ?_
      refine wr U ((rm U).to (v' := (.int .i64 ((i : Nat) : Int))) rfl) rfl rfl ?_
      refine wr U ((rfa U fb_24_0 rfl).to (v' := (.pointer (some ⟨N, 0, none⟩))) rfl) rfl rfl ?_
      refine wr U (rl1 U el_3 rfl (v := (.int .i64 ((m : Nat) : Int))) (by rw [rrw U (by omega) hb3]; rfl)) rfl rfl ?_
      refine wr U (rd_lss U rfl rfl) rfl rfl ?_
      refine wz U ?_
      repeat (first|refine nt ?_|refine nq ?_|refine wq U ?_)
      refine wcd U (t := (decide (((i : Nat) : Int) < ((m : Nat) : Int)))) rfl (fun hck => ?_) fun hck => ?_
      · replace hck := of_decide_eq_true hck
        refine wsk U ?_
        repeat (first|refine nt ?_|refine nq ?_)
        have hi1 : i < m := by omega
        obtain ⟨rb, ro, rfl⟩ := hp (by omega)
        obtain ⟨nb, no, rfl⟩ := hnp (by omega)
        obtain ⟨xu, hxu⟩ := get_ex (l := vs) (i := i) (by omega)
        obtain ⟨xs, hxs⟩ := get_ex (l := rss) (i := i) (by omega)
        have hxr := (hrow i xu xs hxu hxs).sub U hs13
        have hxl := hrl xs (List.mem_of_getElem? hxs)
        have hxr0 := hxr
        obtain ⟨xp, xcap, rfl, hxc, hxp⟩ := hxr.cells1 U
        rw [ints_length] at hxc hxp
        have hil := ints_length xs
        obtain ⟨yu, hyu⟩ := get_ex (l := nus) (i := i) (by omega)
        obtain ⟨L, hL⟩ : ∃ L, nrL E' i m = L := ⟨_, rfl⟩
        have hyr := hnus.2 i yu L hyu (by rw [hXa i hi1, hL])
        have hLl : L.length ≤ m := hL ▸ nrL_len E' i m
        obtain ⟨yp, ycap, rfl, hyc, hyp⟩ := hyr.nums U
        repeat (first|refine nt ?_|refine nq ?_|refine wq U ?_)
        refine wc_block U ?_
        repeat (first|refine nt ?_|refine nq ?_|refine wq U ?_)
        refine wc_draw U H3 mixed ?_
        refine wh_rd U 0 rfl ((rm U).to (v' := (.slice (some ⟨rb, ro, none⟩) vs.length cap)) rfl) (by kernel_rfl) (by kernel_rfl) (by kernel_rfl) rfl rfl (Sub.refl _) ?_
        refine wh_rd U 1 rfl ((rm U).to (v' := (.int .i64 ((i : Nat) : Int))) rfl) (by kernel_rfl) (by kernel_rfl) (by kernel_rfl) rfl rfl (Sub.refl _) ?_
        refine wh_rd U 2 rfl (rd_idx1 U (j := i) sl_25 rfl rfl (by omega)) (by kernel_rfl) (by kernel_rfl) (by kernel_rfl) rfl rfl (Sub.refl _) ?_
        refine wh_rd U 3 rfl (rl1 U el_26 rfl (v := (.slice xp ((ints xs).length) xcap)) (hvs3.get U hxu)) (by kernel_rfl) (by kernel_rfl) (by kernel_rfl) rfl rfl (Sub.refl _) ?_
        refine wh_rd U 4 rfl ((rd_len' U sl_26 rfl).to (v' := (.int .i64 (((ints xs).length : Nat) : Int))) rfl) (by kernel_rfl) (by kernel_rfl) (by kernel_rfl) rfl rfl (Sub.refl _) ?_
        refine wh_rd U 5 rfl ((rm U).to (v' := (.slice (some ⟨nb, no, none⟩) X.length ncap)) rfl) (by kernel_rfl) (by kernel_rfl) (by kernel_rfl) rfl rfl (Sub.refl _) ?_
        refine wh_rd U 6 rfl ((rm U).to (v' := (.int .i64 ((i : Nat) : Int))) rfl) (by kernel_rfl) (by kernel_rfl) (by kernel_rfl) rfl rfl (Sub.refl _) ?_
        refine wh_rd U 7 rfl (rd_idx1 U (j := i) sl_25 rfl rfl (by omega)) (by kernel_rfl) (by kernel_rfl) (by kernel_rfl) rfl rfl (Sub.refl _) ?_
        refine wh_rd U 8 rfl (rl1 U el_26 rfl (v := (.slice yp L.length ycap)) (hnu.get U hyu)) (by kernel_rfl) (by kernel_rfl) (by kernel_rfl) rfl rfl (Sub.refl _) ?_
        refine wh_rd U 9 rfl ((rd_len' U sl_26 rfl).to (v' := (.int .i64 ((L.length : Nat) : Int))) rfl) (by kernel_rfl) (by kernel_rfl) (by kernel_rfl) rfl rfl (Sub.refl _) ?_
        refine wh_rd U 10 rfl (rd_neq U rfl rfl) (by kernel_rfl) (by kernel_rfl) (by kernel_rfl) rfl rfl (Sub.refl _) ?_
        refine wh_done U (by kernel_rfl) ?_
        repeat (first|refine nt ?_|refine nq ?_|refine wq U ?_)
        refine wcd U (t := (decide ((((ints xs).length : Nat) : Int) ≠ ((L.length : Nat) : Int)))) rfl (fun hne => ?_) fun hne => ?_
        · replace hne := of_decide_eq_true hne
          repeat (first|refine nt ?_|refine nq ?_|refine wq U ?_)
          refine wg U ?_
          refine wr U ((ra U).to (v' := (.int .i64 12)) rfl) rfl rfl ?_
          refine wz U ?_
          refine wc_ret U ?_
          repeat (first|refine ret1 ?_|refine ret2 ?_)
          exact end1 U (.inl rfl) rfl (v := (.int .i64 12)) rfl ⟨⟨_, rfl, fun h => absurd h (by decide)⟩, hs13, by omega⟩
        · replace hne := of_decide_eq_false hne
          refine wsk U ?_
          repeat (first|refine nt ?_|refine nq ?_)
          repeat (first|refine nt ?_|refine nq ?_|refine wq U ?_)
          refine wg U ?_
          refine wr U ((ra U).to (v' := (.int .i64 0)) rfl) rfl rfl ?_
          refine wz U ?_
          repeat (first|refine nt ?_|refine nq ?_|refine wq U ?_)
          refine wc_block U ?_
          refine wc_loop U (fun q T H' N' => ∃ (j : Nat), j ≤ L.length ∧ q = L.length - j ∧ Has T [(1, (.slice (some ⟨rb, ro, none⟩) vs.length cap)), (2, (.pointer (some ⟨N, 0, none⟩))), (5, (.slice (some ⟨nb, no, none⟩) X.length ncap)), (6, (.int .i64 ((i : Nat) : Int))), (7, (.int .i64 ((j : Nat) : Int)))] ∧ (∀ v ∈ L.take j, ((v : Nat) : Int) ∈ xs) ∧ H3 = H' ∧ N3 = N') L.length ⟨0, Nat.zero_le _, rfl, ⟨rfl, rfl, rfl, rfl, rfl, trivial⟩, by simp, rfl, rfl⟩ ?_
          rintro q T _ _ ⟨j, hj, rfl, hT, hin, rfl, rfl⟩
          obtain ⟨J, rfl⟩ := hT.ex
          repeat (first|refine nt ?_|refine nq ?_|refine wq U ?_)
          refine wg U ?_
          refine wr U ((rm U).to (v' := (.int .i64 ((j : Nat) : Int))) rfl) rfl rfl ?_
          refine wr U ((rm U).to (v' := (.slice (some ⟨nb, no, none⟩) X.length ncap)) rfl) rfl rfl ?_
          refine wr U ((rm U).to (v' := (.int .i64 ((i : Nat) : Int))) rfl) rfl rfl ?_
          refine wr U (rd_idx1 U (j := i) sl_25 rfl rfl (by omega)) rfl rfl ?_
          refine wr U (rl1 U el_26 rfl (v := (.slice yp L.length ycap)) (hnu.get U hyu)) rfl rfl ?_
          refine wr U ((rd_len' U sl_26 rfl).to (v' := (.int .i64 ((L.length : Nat) : Int))) rfl) rfl rfl ?_
          refine wr U (rd_lss U rfl rfl) rfl rfl ?_
          refine wz U ?_
          repeat (first|refine nt ?_|refine nq ?_|refine wq U ?_)
          refine wcd U (t := (decide (((j : Nat) : Int) < ((L.length : Nat) : Int)))) rfl (fun hcj => ?_) fun hcj => ?_
          · replace hcj := of_decide_eq_true hcj
            refine wsk U ?_
            repeat (first|refine nt ?_|refine nq ?_)
            have hj1 : j < L.length := by omega
            obtain ⟨yb, yo, rfl⟩ := hyp (by omega)
            repeat (first|refine nt ?_|refine nq ?_|refine wq U ?_)
            refine wc_block U ?_
            repeat (first|refine nt ?_|refine nq ?_|refine wq U ?_)
            refine wc_draw U H3 mixed ?_
            refine wh_rd U 0 rfl ((rm U).to (v' := (.slice (some ⟨rb, ro, none⟩) vs.length cap)) rfl) (by kernel_rfl) (by kernel_rfl) (by kernel_rfl) rfl rfl (Sub.refl _) ?_
            refine wh_rd U 1 rfl ((rm U).to (v' := (.int .i64 ((i : Nat) : Int))) rfl) (by kernel_rfl) (by kernel_rfl) (by kernel_rfl) rfl rfl (Sub.refl _) ?_
            refine wh_rd U 2 rfl (rd_idx1 U (j := i) sl_25 rfl rfl (by omega)) (by kernel_rfl) (by kernel_rfl) (by kernel_rfl) rfl rfl (Sub.refl _) ?_
            refine wh_rd U 3 rfl (rl1 U el_26 rfl (v := (.slice xp ((ints xs).length) xcap)) (hvs3.get U hxu)) (by kernel_rfl) (by kernel_rfl) (by kernel_rfl) rfl rfl (Sub.refl _) ?_
            refine wh_rd U 4 rfl ((rm U).to (v' := (.slice (some ⟨nb, no, none⟩) X.length ncap)) rfl) (by kernel_rfl) (by kernel_rfl) (by kernel_rfl) rfl rfl (Sub.refl _) ?_
            refine wh_rd U 5 rfl ((rm U).to (v' := (.int .i64 ((i : Nat) : Int))) rfl) (by kernel_rfl) (by kernel_rfl) (by kernel_rfl) rfl rfl (Sub.refl _) ?_
            refine wh_rd U 6 rfl (rd_idx1 U (j := i) sl_25 rfl rfl (by omega)) (by kernel_rfl) (by kernel_rfl) (by kernel_rfl) rfl rfl (Sub.refl _) ?_
            refine wh_rd U 7 rfl (rl1 U el_26 rfl (v := (.slice (some ⟨yb, yo, none⟩) L.length ycap)) (hnu.get U hyu)) (by kernel_rfl) (by kernel_rfl) (by kernel_rfl) rfl rfl (Sub.refl _) ?_
            refine wh_rd U 8 rfl ((rm U).to (v' := (.int .i64 ((j : Nat) : Int))) rfl) (by kernel_rfl) (by kernel_rfl) (by kernel_rfl) rfl rfl (Sub.refl _) ?_
            refine wh_rd U 9 rfl (rd_idx1 U (j := j) sl_26 rfl rfl hj1) (by kernel_rfl) (by kernel_rfl) (by kernel_rfl) rfl rfl (Sub.refl _) ?_
            refine wh_rd U 10 rfl (rl1 U el_3 rfl (v := (.int .i64 ((L[j] : Nat) : Int))) (hyr.n0 U hj1)) (by kernel_rfl) (by kernel_rfl) (by kernel_rfl) rfl rfl (Sub.refl _) ?_
            refine wh_op U 11 (by kernel_rfl) rfl rfl rfl (op_call U Tryz.f16 rfl rfl pf_16 (by kernel_rfl) (by kernel_rfl) ((s16 U xs _ _ (by omega) H3 N3 hxr0).mono U ?_))
            rintro _ _ _ ⟨rfl, rfl, rfl⟩
            refine ⟨(Sub.refl _), ?_⟩
            refine wh_rd U 12 rfl (rd_not U rfl) (by kernel_rfl) (by kernel_rfl) (by kernel_rfl) rfl rfl (Sub.refl _) ?_
            refine wh_done U (by kernel_rfl) ?_
            repeat (first|refine nt ?_|refine nq ?_|refine wq U ?_)
            refine wcd U (t := (!(decide (((L[j] : Nat) : Int) ∈ xs)))) rfl (fun hnot => ?_) fun hnot => ?_
            · skip
              repeat (first|refine nt ?_|refine nq ?_|refine wq U ?_)
              refine wg U ?_
              refine wr U ((ra U).to (v' := (.int .i64 12)) rfl) rfl rfl ?_
              refine wz U ?_
              refine wc_ret U ?_
              repeat (first|refine ret1 ?_|refine ret2 ?_)
              exact end1 U (.inl rfl) rfl (v := (.int .i64 12)) rfl ⟨⟨_, rfl, fun h => absurd h (by decide)⟩, hs13, by omega⟩
            · skip
              have hmem : ((L[j] : Nat) : Int) ∈ xs := by simpa using hnot
              refine wsk U ?_
              repeat (first|refine nt ?_|refine nq ?_)
              repeat (first|refine nt ?_|refine nq ?_|refine wq U ?_)
              refine wg U ?_
              refine wr U ((rm U).to (v' := (.int .i64 ((j : Nat) : Int))) rfl) rfl rfl ?_
              refine wr U (rd_add U rfl rfl (by omega) (by omega)) rfl rfl ?_
              refine wr U ((ra U).to (v' := (.int .i64 (((j : Nat) : Int) + 1))) rfl) rfl rfl ?_
              refine wz U ?_
              repeat (first|refine nt ?_|refine nq ?_)
              refine ⟨L.length - (j + 1), by omega, j + 1, by omega, rfl, ⟨rfl, rfl, rfl, rfl, rfl, trivial⟩, ?_, rfl, rfl⟩
              intro v hv; rw [List.take_succ_eq_append_getElem hj1, List.mem_append, List.mem_singleton] at hv; rcases hv with hv | rfl; exact hin v hv; exact hmem
          · replace hcj := of_decide_eq_false hcj
            refine wc_exit U ?_
            repeat (first|refine xt ?_|refine xps (by decide) ?_)
            refine xbl ?_
            repeat (first|refine nt ?_|refine nq ?_)
            rw [List.take_of_length_le (by omega)] at hin
            repeat (first|refine nt ?_|refine nq ?_|refine wq U ?_)
            refine wg U ?_
            refine wr U ((rm U).to (v' := (.int .i64 ((i : Nat) : Int))) rfl) rfl rfl ?_
            refine wr U (rd_add U rfl rfl (by omega) (by omega)) rfl rfl ?_
            refine wr U ((ra U).to (v' := (.int .i64 (((i : Nat) : Int) + 1))) rfl) rfl rfl ?_
            refine wz U ?_
            repeat (first|refine nt ?_|refine nq ?_)
            refine ⟨m - (i + 1), by omega, i + 1, by omega, rfl, ⟨rfl, rfl, rfl, rfl, trivial⟩, ?_, rfl, rfl⟩
            intro a ha; rcases Nat.lt_or_ge a i with h | h; exact hok a h; obtain rfl : a = i := by omega
            intro xs' hx'; rw [hxs] at hx'; cases hx'; rw [hL]; exact ⟨by omega, hin⟩
      · replace hck := of_decide_eq_false hck
        refine wc_exit U ?_
        repeat (first|refine xt ?_|refine xps (by decide) ?_)
        refine xbl ?_
        repeat (first|refine nt ?_|refine nq ?_)
        repeat (first|refine nt ?_|refine nq ?_|refine wq U ?_)
        refine wg U ?_
        refine wr U ((ra U).to (v' := (.int .i64 0)) rfl) rfl rfl ?_
        refine wz U ?_
        obtain ⟨rs, hrs, hrot⟩ := rot_of hg (by omega) fun a ha => hok a (by omega)
        refine wc_ret U ?_
        repeat (first|refine ret1 ?_|refine ret2 ?_)
        exact end1 U (.inl rfl) rfl (v := (.int .i64 0)) rfl ⟨⟨_, rfl, fun _ => ⟨m, E', rs, rfl, rfl, hg, hrs, hrot⟩⟩, hs13, by omega⟩
end Go.Proofs.YtdmodppoellbkaaGreat
namespace Go.Proofs.YtdmodppoellbkaaGreat
open Go Go.RowKit
variable (U : Cx)
theorem dec_nD (a b : ND) : Value.bool (decide (nD a = nD b)) = Value.bool (decide (a = b)) := congrArg Value.bool (by by_cases h : a = b; subst h; simp; rw [decide_eq_false h, decide_eq_false (fun e => h (nD_inj e))])
theorem idx_at {l : List Nat} {i x : Nat} (hi : i < l.length) (hno : x ∉ l.take i) (he : l[i] = x) : l.idxOf x = i := by
  have h1 : l = l.take i ++ l[i] :: l.drop (i + 1) := by rw [← List.drop_eq_getElem_cons hi, List.take_append_drop]
  have h2 : l.idxOf x = (l.take i ++ l[i] :: l.drop (i + 1)).idxOf x := congrArg (List.idxOf x) h1
  rw [h2, List.idxOf_append, if_neg hno, he, List.idxOf_cons_self, List.length_take]; omega
theorem tmod_nat (a b : Nat) : Int.tmod (((a : Nat) : Int) + 1) ((b : Nat) : Int) = (((a + 1) % b : Nat) : Int) := by
  rw [show (((a : Nat) : Int) + 1) = ((a + 1 : Nat) : Int) by omega, Int.tmod_eq_emod_of_nonneg (by omega)]; rfl
theorem s48 (ds : List ND) (d : ND) (sv : Value) (hl : ds.length ≤ 100000000) (H : Hp) (N : Nat) (hv : RdS U H sv 2 (dcs ds)) : Spec U 48 #[sv, (.agg #[(.int .i64 ((d.1 : Nat) : Int)), (.int .i64 ((d.2 : Nat) : Int))])] H N (fun v H' N' => v = .bool (decide (d ∈ ds)) ∧ Sub H H' ∧ N ≤ N') := by
  obtain ⟨p, k, cap, rfl, hkc, hkl, hp⟩ := hv.out U
  rw [dcs_length] at hkl
  obtain rfl : ds.length = k := by omega
  refine spa U pf_48 (m := 18) rfl rfl (by simp) fun hBN hlt => ?_
  obtain ⟨J, hJ⟩ := Has.ex (T := argsT #[(.slice p ds.length cap), (.agg #[(.int .i64 ((d.1 : Nat) : Int)), (.int .i64 ((d.2 : Nat) : Int))])]) (l := [(0, (.slice p ds.length cap)), (1, (.agg #[(.int .i64 ((d.1 : Nat) : Int)), (.int .i64 ((d.2 : Nat) : Int))]))]) ⟨rfl, rfl, trivial⟩
  rw [hJ]; clear hJ
  repeat (first|refine nt ?_|refine nq ?_|refine wq U ?_)
  refine wg U ?_
  refine wl_op U rfl rfl (op_box U rfl rfl ?_)
  refine wr U ((ra U).to (v' := (.bool false)) rfl) rfl rfl ?_
  refine wz U ?_
  repeat (first|refine nt ?_|refine nq ?_)
  refine wc_gen U (fun R => R N = some (.row 56 0 [(.int .i64 ((d.1 : Nat) : Int)), (.int .i64 ((d.2 : Nat) : Int))] 2) ∧ Sub _ R) ⟨(by first|(rw [hsy]; done) | (rw [hsy]; rfl)), ((Sub.refl _).hset (fresh hlt (by omega)))⟩ ?_
  rintro R ⟨hx_1, hs⟩ hBNR hltR
  have hv := hv.sub U hs
  repeat (first|refine nt ?_|refine nq ?_|refine wq U ?_)
  refine wg U ?_
  refine wr U ((ra U).to (v' := (.int .i64 0)) rfl) rfl rfl ?_
  refine wz U ?_
  repeat (first|refine nt ?_|refine nq ?_|refine wq U ?_)
  refine wc_block U ?_
  refine wc_loop U (fun m T H' N' => ∃ (i : Nat), i ≤ ds.length ∧ m = ds.length - i ∧ Has T [(0, (.slice p ds.length cap)), (3, (.pointer (some ⟨N, 0, none⟩))), (5, (.int .i64 ((i : Nat) : Int)))] ∧ d ∉ ds.take i ∧ R = H' ∧ N + 1 = N') ds.length ⟨0, Nat.zero_le _, rfl, ⟨rfl, rfl, rfl, trivial⟩, by simp, rfl, rfl⟩ ?_
  rintro m T _ _ ⟨i, hi, rfl, hT, hno, rfl, rfl⟩
  obtain ⟨J, rfl⟩ := hT.ex
  repeat (first|refine nt ?_|refine nq ?_|refine wq U ?_)
  refine wg U ?_
  refine wr U ((rm U).to (v' := (.int .i64 ((i : Nat) : Int))) rfl) rfl rfl ?_
  refine wr U ((rm U).to (v' := (.slice p ds.length cap)) rfl) rfl rfl ?_
  refine wr U ((rd_len' U sl_57 rfl).to (v' := (.int .i64 ((ds.length : Nat) : Int))) rfl) rfl rfl ?_
  refine wr U (rd_lss U rfl rfl) rfl rfl ?_
  refine wz U ?_
  repeat (first|refine nt ?_|refine nq ?_|refine wq U ?_)
  refine wcd U (t := (decide (((i : Nat) : Int) < ((ds.length : Nat) : Int)))) rfl (fun hck => ?_) fun hck => ?_
  · replace hck := of_decide_eq_true hck
    refine wsk U ?_
    repeat (first|refine nt ?_|refine nq ?_)
    have hi1 : i < ds.length := by omega
    obtain ⟨eb, eoff, rfl⟩ := hp (by omega)
    repeat (first|refine nt ?_|refine nq ?_|refine wq U ?_)
    refine wc_block U ?_
    have hgd := dcs_get ds hi1
    repeat (first|refine nt ?_|refine nq ?_|refine wq U ?_)
    refine wc_draw U R mixed ?_
    refine wh_rd U 0 rfl ((rm U).to (v' := (.slice (some ⟨eb, eoff, none⟩) ds.length cap)) rfl) (by kernel_rfl) (by kernel_rfl) (by kernel_rfl) rfl rfl (Sub.refl _) ?_
    refine wh_rd U 1 rfl ((rm U).to (v' := (.int .i64 ((i : Nat) : Int))) rfl) (by kernel_rfl) (by kernel_rfl) (by kernel_rfl) rfl rfl (Sub.refl _) ?_
    refine wh_rd U 2 rfl (rd_idxN U (j := i) sl_57 rfl rfl hi1) (by kernel_rfl) (by kernel_rfl) (by kernel_rfl) rfl rfl (Sub.refl _) ?_
    refine wh_rd U 3 rfl (rd_load2 U el_56 rfl (v0 := (.int .i64 ((ds[i].1 : Nat) : Int))) (v1 := (.int .i64 ((ds[i].2 : Nat) : Int)))  (hv.get U hgd.1) (hv.get U hgd.2)) (by kernel_rfl) (by kernel_rfl) (by kernel_rfl) rfl rfl (Sub.refl _) ?_
    refine wh_rd U 4 rfl (rd_load2 U el_56 rfl (v0 := (.int .i64 ((d.1 : Nat) : Int))) (v1 := (.int .i64 ((d.2 : Nat) : Int)))  (by rw [rrw U (by omega) hx_1]; rfl) (by rw [rrw U (by omega) hx_1]; rfl)) (by kernel_rfl) (by kernel_rfl) (by kernel_rfl) rfl rfl (Sub.refl _) ?_
    refine wh_rd U 5 rfl ((rd_eqDart U (p := nD ds[i]) (q := nD d) rfl rfl rfl).to (v' := (.bool (decide (ds[i] = d)))) (dec_nD _ _)) (by kernel_rfl) (by kernel_rfl) (by kernel_rfl) rfl rfl (Sub.refl _) ?_
    refine wh_done U (by kernel_rfl) ?_
    repeat (first|refine nt ?_|refine nq ?_|refine wq U ?_)
    refine wcd U (t := (decide (ds[i] = d))) rfl (fun he => ?_) fun he => ?_
    · replace he := of_decide_eq_true he
      repeat (first|refine nt ?_|refine nq ?_|refine wq U ?_)
      refine wg U ?_
      refine wr U ((ra U).to (v' := (.bool true)) rfl) rfl rfl ?_
      refine wz U ?_
      refine wc_ret U ?_
      repeat (first|refine ret1 ?_|refine ret2 ?_)
      exact end1 U (.inl rfl) rfl (v := (.bool true)) rfl ⟨congrArg Value.bool (decide_eq_true (he ▸ List.getElem_mem hi1)).symm, hs, by omega⟩
    · replace he := of_decide_eq_false he
      refine wsk U ?_
      repeat (first|refine nt ?_|refine nq ?_)
      repeat (first|refine nt ?_|refine nq ?_|refine wq U ?_)
      refine wg U ?_
      refine wr U ((rm U).to (v' := (.int .i64 ((i : Nat) : Int))) rfl) rfl rfl ?_
      refine wr U (rd_add U rfl rfl (by omega) (by omega)) rfl rfl ?_
      refine wr U ((ra U).to (v' := (.int .i64 (((i : Nat) : Int) + 1))) rfl) rfl rfl ?_
      refine wz U ?_
      repeat (first|refine nt ?_|refine nq ?_)
      exact ⟨ds.length - (i + 1), by omega, i + 1, by omega, rfl, ⟨rfl, rfl, rfl, trivial⟩, by rw [List.take_succ_eq_append_getElem hi1, List.mem_append, List.mem_singleton]; rintro (h | h); exact hno h; exact he h.symm, rfl, rfl⟩
  · replace hck := of_decide_eq_false hck
    refine wc_exit U ?_
    repeat (first|refine xt ?_|refine xps (by decide) ?_)
    refine xbl ?_
    repeat (first|refine nt ?_|refine nq ?_)
    rw [List.take_of_length_le (by omega)] at hno
    repeat (first|refine nt ?_|refine nq ?_|refine wq U ?_)
    refine wg U ?_
    refine wr U ((ra U).to (v' := (.bool false)) rfl) rfl rfl ?_
    refine wz U ?_
    refine wc_ret U ?_
    repeat (first|refine ret1 ?_|refine ret2 ?_)
    exact end1 U (.inl rfl) rfl (v := (.bool false)) rfl ⟨congrArg Value.bool (decide_eq_false hno).symm, hs, by omega⟩
theorem s49 (n : Nat) (E : List NE) (rv : Value) (rs : List (List Nat)) (d : ND) (hg : GOk n E) (hR : Rot n E rs) (had : adj E d.1 d.2) (hrl : ∀ r ∈ rs, r.length ≤ 1000) (H : Hp) (N : Nat) (hr : Rd2 U H rv rs) : Spec U 49 #[rv, (.agg #[(.int .i64 ((d.1 : Nat) : Int)), (.int .i64 ((d.2 : Nat) : Int))])] H N (fun v H' N' => v = .tuple #[(.agg #[(.int .i64 (((nxtD rs d).1 : Nat) : Int)), (.int .i64 (((nxtD rs d).2 : Nat) : Int))]), .bool true] ∧ Sub H H' ∧ N ≤ N') := by
  obtain ⟨rp, rcap, us, rfl, hrp, hus, hrv⟩ := hr.open U
  have hd2 := (hg.adj_lt had).2.1; have hn := hg.hn; have hrn := hR.len
  refine spa U pf_49 (m := 49) rfl rfl (by simp) fun hBN hlt => ?_
  obtain ⟨J, hJ⟩ := Has.ex (T := argsT #[(.slice rp rs.length rcap), (.agg #[(.int .i64 ((d.1 : Nat) : Int)), (.int .i64 ((d.2 : Nat) : Int))])]) (l := [(0, (.slice rp rs.length rcap)), (1, (.agg #[(.int .i64 ((d.1 : Nat) : Int)), (.int .i64 ((d.2 : Nat) : Int))]))]) ⟨rfl, rfl, trivial⟩
  rw [hJ]; clear hJ
  repeat (first|refine nt ?_|refine nq ?_|refine wq U ?_)
  refine wg U ?_
  refine wl_op U rfl rfl (op_box U rfl rfl ?_)
  refine wl_own U fun hBN0 hlt0 => ?_
  refine wl_op U rfl rfl (op_alloc U z_56 rfl ?_)
  refine wr U ((ra U).to (v' := (.bool false)) rfl) rfl rfl ?_
  refine wz U ?_
  repeat (first|refine nt ?_|refine nq ?_)
  obtain ⟨R0, hR0⟩ : ∃ R, hset H N (.row 56 0 [(.int .i64 ((d.1 : Nat) : Int)), (.int .i64 ((d.2 : Nat) : Int))] 2) = R := ⟨_, rfl⟩
  replace hlt0 : ∀ b o, hset H N (.row 56 0 [(.int .i64 ((d.1 : Nat) : Int)), (.int .i64 ((d.2 : Nat) : Int))] 2) b = some o → U.B ≤ b ∧ b < N + 1 := hlt0
  rw [hR0] at hlt0
  have hx0 : R0 N = some (.row 56 0 [(.int .i64 ((d.1 : Nat) : Int)), (.int .i64 ((d.2 : Nat) : Int))] 2) := by rw [← hR0]; exact hsy
  have hs0 : Sub H R0 := by rw [← hR0]; exact (Sub.refl H).hset (fresh hlt (by omega))
  have hsr : Sub R0 (hset R0 (N + 1) (.row 56 0 [(.int .i64 0), (.int .i64 0)] 2)) := (Sub.refl R0).hset (fresh hlt0 (by omega))
  refine wc_gen U (fun R => R = hset R0 (N + 1) (.row 56 0 [(.int .i64 0), (.int .i64 0)] 2)) (by rw [← hR0]; rfl) ?_
  rintro R1 hR1 hBNq hltq
  rw [← hR1] at hsr
  have hx1 : R1 (N + 1) = some (.row 56 0 [(.int .i64 0), (.int .i64 0)] 2) := by rw [hR1]; exact hsy
  have hx01 := hsr _ _ hx0
  have hBN1 : U.B ≤ N + 1 := by omega
  repeat (first|refine nt ?_|refine nq ?_|refine wq U ?_)
  refine wg U ?_
  refine wr U ((rfa U fb_56_1 rfl).to (v' := (.pointer (some ⟨N, 1, none⟩))) rfl) rfl rfl ?_
  refine wr U (rl1 U el_3 rfl (v := (.int .i64 ((d.2 : Nat) : Int))) (by rw [rrw U (by omega) hx01]; rfl)) rfl rfl ?_
  refine wr U ((rd_lss U rfl rfl).to (v' := (.bool false)) (congrArg Value.bool (decide_eq_false (by omega)))) rfl rfl ?_
  refine wr U ((rm U).to (v' := (.bool false)) rfl) rfl rfl ?_
  refine wr U ((rfa U fb_56_1 rfl).to (v' := (.pointer (some ⟨N, 1, none⟩))) rfl) rfl rfl ?_
  refine wr U (rl1 U el_3 rfl (v := (.int .i64 ((d.2 : Nat) : Int))) (by rw [rrw U (by omega) hx01]; rfl)) rfl rfl ?_
  refine wr U ((rm U).to (v' := (.slice rp rs.length rcap)) rfl) rfl rfl ?_
  refine wr U ((rd_len' U sl_25 rfl).to (v' := (.int .i64 ((rs.length : Nat) : Int))) rfl) rfl rfl ?_
  refine wr U ((rd_geq U rfl rfl).to (v' := (.bool false)) (congrArg Value.bool (decide_eq_false (by omega)))) rfl rfl ?_
  refine wr U ((rd_pick U rfl).to (v' := (.bool false)) rfl) rfl rfl ?_
  refine wz U ?_
  repeat (first|refine nt ?_|refine nq ?_|refine wq U ?_)
  refine wcd U (t := false) rfl (fun h => nomatch h) fun _ => ?_
  refine wsk U ?_
  repeat (first|refine nt ?_|refine nq ?_)
  obtain ⟨rb, ro, rfl⟩ := hrp (by omega)
  obtain ⟨fu, hfu⟩ := get_ex (l := us) (i := d.2) (by have := hrv.1; omega)
  obtain ⟨f, hf⟩ := get_ex (l := rs) (i := d.2) (by omega)
  have hfr0 := (hrv.2 d.2 fu f hfu hf).sub U hs0
  have hfr1 := hfr0.sub U hsr
  have hfl := hrl f (List.mem_of_getElem? hf)
  have hfD : rs.getD d.2 [] = f := by rw [List.getD_eq_getElem?_getD, hf]; rfl
  have hmf : d.1 ∈ f := by rw [← hfD]; exact (hR.mem _ _).2 had.symm
  obtain ⟨fp, fcap, rfl, hfc, hfp⟩ := hfr0.nums U
  repeat (first|refine nt ?_|refine nq ?_|refine wq U ?_)
  refine wg U ?_
  refine wr U ((rm U).to (v' := (.slice (some ⟨rb, ro, none⟩) rs.length rcap)) rfl) rfl rfl ?_
  refine wr U ((rfa U fb_56_1 rfl).to (v' := (.pointer (some ⟨N, 1, none⟩))) rfl) rfl rfl ?_
  refine wr U (rl1 U el_3 rfl (v := (.int .i64 ((d.2 : Nat) : Int))) (by rw [rrw U (by omega) hx01]; rfl)) rfl rfl ?_
  refine wr U (rd_idx1 U (j := d.2) sl_25 rfl rfl (by omega)) rfl rfl ?_
  refine wr U (rl1 U el_26 rfl (v := (.slice fp f.length fcap)) ((hus.sub U (hs0.trans hsr)).get U hfu)) rfl rfl ?_
  refine wr U ((ra U).to (v' := (.slice fp f.length fcap)) rfl) rfl rfl ?_
  refine wz U ?_
  repeat (first|refine nt ?_|refine nq ?_|refine wq U ?_)
  refine wg U ?_
  refine wr U ((ra U).to (v' := (.int .i64 0)) rfl) rfl rfl ?_
  refine wz U ?_
  obtain ⟨b, off, rfl⟩ := hfp (List.length_pos_of_mem hmf)
  repeat (first|refine nt ?_|refine nq ?_|refine wq U ?_)
  refine wc_block U ?_
  refine wc_loop U (fun m T H' N' => ∃ (i : Nat), i ≤ f.length ∧ m = f.length - i ∧ Has T [(0, (.slice (some ⟨rb, ro, none⟩) rs.length rcap)), (3, (.pointer (some ⟨N, 0, none⟩))), (4, (.pointer (some ⟨(N + 1), 0, none⟩))), (6, (.slice (some ⟨b, off, none⟩) f.length fcap)), (7, (.int .i64 ((i : Nat) : Int)))] ∧ d.1 ∉ f.take i ∧ R1 = H' ∧ N + 1 + 1 = N') f.length ⟨0, Nat.zero_le _, rfl, ⟨rfl, rfl, rfl, rfl, rfl, trivial⟩, by simp, rfl, rfl⟩ ?_
  rintro m T _ _ ⟨i, hi, rfl, hT, hno, rfl, rfl⟩
  obtain ⟨J, rfl⟩ := hT.ex
  repeat (first|refine nt ?_|refine nq ?_|refine wq U ?_)
  refine wg U ?_
  refine wr U ((rm U).to (v' := (.int .i64 ((i : Nat) : Int))) rfl) rfl rfl ?_
  refine wr U ((rm U).to (v' := (.slice (some ⟨b, off, none⟩) f.length fcap)) rfl) rfl rfl ?_
  refine wr U ((rd_len' U sl_26 rfl).to (v' := (.int .i64 ((f.length : Nat) : Int))) rfl) rfl rfl ?_
  refine wr U (rd_lss U rfl rfl) rfl rfl ?_
  refine wz U ?_
  repeat (first|refine nt ?_|refine nq ?_|refine wq U ?_)
  refine wcd U (t := (decide (((i : Nat) : Int) < ((f.length : Nat) : Int)))) rfl (fun hck => ?_) fun hck => ?_
  · replace hck := of_decide_eq_true hck
    refine wsk U ?_
    repeat (first|refine nt ?_|refine nq ?_)
    have hi1 : i < f.length := by omega
    repeat (first|refine nt ?_|refine nq ?_|refine wq U ?_)
    refine wc_block U ?_
    repeat (first|refine nt ?_|refine nq ?_|refine wq U ?_)
    refine wc_draw U R1 mixed ?_
    refine wh_rd U 0 rfl ((rm U).to (v' := (.slice (some ⟨b, off, none⟩) f.length fcap)) rfl) (by kernel_rfl) (by kernel_rfl) (by kernel_rfl) rfl rfl (Sub.refl _) ?_
    refine wh_rd U 1 rfl ((rm U).to (v' := (.int .i64 ((i : Nat) : Int))) rfl) (by kernel_rfl) (by kernel_rfl) (by kernel_rfl) rfl rfl (Sub.refl _) ?_
    refine wh_rd U 2 rfl (rd_idx1 U (j := i) sl_26 rfl rfl hi1) (by kernel_rfl) (by kernel_rfl) (by kernel_rfl) rfl rfl (Sub.refl _) ?_
    refine wh_rd U 3 rfl (rl1 U el_3 rfl (v := (.int .i64 ((f[i] : Nat) : Int))) (hfr1.n0 U hi1)) (by kernel_rfl) (by kernel_rfl) (by kernel_rfl) rfl rfl (Sub.refl _) ?_
    refine wh_rd U 4 rfl ((rfa U fb_56_0 rfl).to (v' := (.pointer (some ⟨N, 0, none⟩))) rfl) (by kernel_rfl) (by kernel_rfl) (by kernel_rfl) rfl rfl (Sub.refl _) ?_
    refine wh_rd U 5 rfl (rl1 U el_3 rfl (v := (.int .i64 ((d.1 : Nat) : Int))) (by rw [rrw U (by omega) hx01]; rfl)) (by kernel_rfl) (by kernel_rfl) (by kernel_rfl) rfl rfl (Sub.refl _) ?_
    refine wh_rd U 6 rfl (rd_eql U rfl rfl) (by kernel_rfl) (by kernel_rfl) (by kernel_rfl) rfl rfl (Sub.refl _) ?_
    refine wh_done U (by kernel_rfl) ?_
    repeat (first|refine nt ?_|refine nq ?_|refine wq U ?_)
    refine wcd U (t := (decide (((f[i] : Nat) : Int) = ((d.1 : Nat) : Int)))) rfl (fun he => ?_) fun he => ?_
    · replace he := of_decide_eq_true he
      have hix : f.idxOf d.1 = i := idx_at hi1 hno (by omega)
      have hm1 : (i + 1) % f.length < f.length := Nat.mod_lt _ (by omega)
      have hnx : nxtD rs d = (d.2, f[(i + 1) % f.length]) := by unfold nxtD; rw [hfD, hix, List.getD_eq_getElem?_getD, List.getElem?_eq_getElem hm1]; rfl
      have hs3 : Sub R0 (hset R1 (N + 1) (.row 56 0 [(.int .i64 ((d.2 : Nat) : Int)), (.int .i64 ((f[(i + 1) % f.length] : Nat) : Int))] 2)) := hsr.hset (fresh hlt0 (by omega))
      repeat (first|refine nt ?_|refine nq ?_|refine wq U ?_)
      refine wc_draw U R0 mixed ?_
      refine wh_rd U 0 rfl ((rfa U fb_56_1 rfl).to (v' := (.pointer (some ⟨N, 1, none⟩))) rfl) (by kernel_rfl) (by kernel_rfl) (by kernel_rfl) rfl rfl hsr ?_
      refine wh_rd U 1 rfl (rl1 U el_3 rfl (v := (.int .i64 ((d.2 : Nat) : Int))) (by rw [rrw U (by omega) hx0]; rfl)) (by kernel_rfl) (by kernel_rfl) (by kernel_rfl) rfl rfl hsr ?_
      refine wh_rd U 2 rfl ((rm U).to (v' := (.slice (some ⟨b, off, none⟩) f.length fcap)) rfl) (by kernel_rfl) (by kernel_rfl) (by kernel_rfl) rfl rfl hsr ?_
      refine wh_rd U 3 rfl ((rm U).to (v' := (.int .i64 ((i : Nat) : Int))) rfl) (by kernel_rfl) (by kernel_rfl) (by kernel_rfl) rfl rfl hsr ?_
      refine wh_rd U 4 rfl (rd_add U rfl rfl (by omega) (by omega)) (by kernel_rfl) (by kernel_rfl) (by kernel_rfl) rfl rfl hsr ?_
      refine wh_rd U 5 rfl ((rm U).to (v' := (.slice (some ⟨b, off, none⟩) f.length fcap)) rfl) (by kernel_rfl) (by kernel_rfl) (by kernel_rfl) rfl rfl hsr ?_
      refine wh_rd U 6 rfl ((rd_len' U sl_26 rfl).to (v' := (.int .i64 ((f.length : Nat) : Int))) rfl) (by kernel_rfl) (by kernel_rfl) (by kernel_rfl) rfl rfl hsr ?_
      refine wh_rd U 7 rfl ((rd_rem U rfl rfl (by omega)).to (v' := (.int .i64 (((i + 1) % f.length : Nat) : Int))) (congrArg (Value.int .i64) (tmod_nat i f.length))) (by kernel_rfl) (by kernel_rfl) (by kernel_rfl) rfl rfl hsr ?_
      refine wh_rd U 8 rfl (rd_idx1 U (j := (i + 1) % f.length) sl_26 rfl rfl hm1) (by kernel_rfl) (by kernel_rfl) (by kernel_rfl) rfl rfl hsr ?_
      refine wh_rd U 9 rfl (rl1 U el_3 rfl (v := (.int .i64 ((f[(i + 1) % f.length] : Nat) : Int))) (hfr0.n0 U hm1)) (by kernel_rfl) (by kernel_rfl) (by kernel_rfl) rfl rfl hsr ?_
      refine wh_rd U 10 rfl (rd_build U (cells := #[(.int .i64 ((d.2 : Nat) : Int)), (.int .i64 ((f[(i + 1) % f.length] : Nat) : Int))]) (by unfold P; kernel_rfl)) (by kernel_rfl) (by kernel_rfl) (by kernel_rfl) rfl rfl hsr ?_
      refine wh_op0 U 11 (by kernel_rfl) rfl rfl (op_store U (vs := [(.int .i64 ((d.2 : Nat) : Int)), (.int .i64 ((f[(i + 1) % f.length] : Nat) : Int))]) (cs := [(.int .i64 0), (.int .i64 0)]) el_56 rfl rfl rfl rfl (one2 rfl rfl) hx1 (by omega) (by simp) ⟨hs3, ?_⟩)
      refine wh_rd U 12 rfl ((ra U).to (v' := (.bool true)) rfl) (by kernel_rfl) (by kernel_rfl) (by kernel_rfl) rfl rfl hs3 ?_
      refine wh_done U (by kernel_rfl) ?_
      refine wc_ret U ?_
      repeat (first|refine ret1 ?_|refine ret2 ?_)
      exact endCellT U (v0 := (.int .i64 ((d.2 : Nat) : Int))) (v1 := (.int .i64 ((f[(i + 1) % f.length] : Nat) : Int))) (v2 := .bool true) (.inl rfl) rfl el_56 rfl rfl (by rw [rhq U (by omega)]; rfl) (by rw [rhq U (by omega)]; rfl) ⟨by rw [hnx], hs0.trans hs3, by omega⟩
    · replace he := of_decide_eq_false he
      refine wsk U ?_
      repeat (first|refine nt ?_|refine nq ?_)
      repeat (first|refine nt ?_|refine nq ?_|refine wq U ?_)
      refine wg U ?_
      refine wr U ((rm U).to (v' := (.int .i64 ((i : Nat) : Int))) rfl) rfl rfl ?_
      refine wr U (rd_add U rfl rfl (by omega) (by omega)) rfl rfl ?_
      refine wr U ((ra U).to (v' := (.int .i64 (((i : Nat) : Int) + 1))) rfl) rfl rfl ?_
      refine wz U ?_
      repeat (first|refine nt ?_|refine nq ?_)
      exact ⟨f.length - (i + 1), by omega, i + 1, by omega, rfl, ⟨rfl, rfl, rfl, rfl, rfl, trivial⟩, by rw [List.take_succ_eq_append_getElem hi1, List.mem_append, List.mem_singleton]; rintro (h | h); exact hno h; exact he (by omega), rfl, rfl⟩
  · replace hck := of_decide_eq_false hck
    rw [List.take_of_length_le (by omega)] at hno; exact absurd hmf hno
end Go.Proofs.YtdmodppoellbkaaGreat
namespace Go.Proofs.YtdmodppoellbkaaGreat
open Go Go.RowKit
variable (U : Cx)
def Usd (v mv fv : Value) (us : List Value) (c : Nat) : Prop := blkOf v = some c ∨ blkOf mv = some c ∨ blkOf fv = some c ∨ ∃ u ∈ us, blkOf u = some c
/-- The document's faces while they grow, the darts that are met, and the face that is under way. -/
structure Rfm (H : Hp) (M : Nat) (v : Value) (us : List Value) (fs : List (List ND)) (mv : Value) (met : List ND) (fv : Value) (f : List ND) : Prop where
  sl : IsSl H v 57 1 us
  ul : us.length = fs.length
  nsl : ∀ (i : Nat) (u : Value) (g : List ND), us[i]? = some u → fs[i]? = some g → IsSl H u 56 2 (dcs g)
  ms : IsSl H mv 56 2 (dcs met)
  cur : IsSl H fv 56 2 (dcs f)
  lo : ∀ c, Usd v mv fv us c → M ≤ c
  n1 : ∀ u ∈ us, ∀ c, blkOf u = some c → blkOf v ≠ some c ∧ blkOf fv ≠ some c ∧ blkOf mv ≠ some c
  n2 : ∀ c, blkOf fv = some c → blkOf v ≠ some c ∧ blkOf mv ≠ some c
  n3 : ∀ c, blkOf mv = some c → blkOf v ≠ some c
def nil0 : Value := .slice none 0 0
theorem Rfm.start (H : Hp) (M : Nat) : Rfm H M (.slice none 0 0) [] [] (.slice none 0 0) [] (.slice none 0 0) [] :=
  ⟨.inl ⟨rfl, rfl⟩, rfl, (fun i u g h => by cases h), .inl ⟨rfl, rfl⟩, .inl ⟨rfl, rfl⟩, (fun c h => by rcases h with h | h | h | ⟨u, h, _⟩ <;> cases h), (fun u h => by cases h), (fun c h => by cases h), fun c h => by cases h⟩
section
variable {H H' : Hp} {M N : Nat} {v mv fv : Value} {us : List Value} {fs : List (List ND)} {met f : List ND}
theorem Rfm.lt (h : Rfm H M v us fs mv met fv f) (hl : ∀ b o, H b = some o → U.B ≤ b ∧ b < N) {c : Nat} (hc : Usd v mv fv us c) : c < N := by
  rcases hc with hc | hc | hc | ⟨u, hu, hc⟩
  · exact (h.sl.lt hl hc).2
  · exact (h.ms.lt hl hc).2
  · exact (h.cur.lt hl hc).2
  · obtain ⟨i, hi⟩ := List.mem_iff_getElem?.1 hu
    obtain ⟨g, hg⟩ := get_ex (l := fs) (i := i) (by rw [← h.ul]; exact (List.getElem?_eq_some_iff.1 hi).1)
    exact ((h.nsl i u g hi hg).lt hl hc).2
theorem Rfm.at (h : Rfm H M v us fs mv met fv f) (hk : ∀ c, Usd v mv fv us c → H' c = H c) : Rfm H' M v us fs mv met fv f :=
  { h with
    sl := h.sl.at fun c hc => hk c (.inl hc)
    ms := h.ms.at fun c hc => hk c (.inr (.inl hc))
    cur := h.cur.at fun c hc => hk c (.inr (.inr (.inl hc)))
    nsl := fun i u g hu hg => (h.nsl i u g hu hg).at fun c hc => hk c (.inr (.inr (.inr ⟨u, List.mem_of_getElem? hu, hc⟩))) }
theorem Rfm.sub (h : Rfm H M v us fs mv met fv f) (hs : Sub H H') : Rfm H' M v us fs mv met fv f :=
  { h with sl := h.sl.sub hs, ms := h.ms.sub hs, cur := h.cur.sub hs, nsl := fun i u g hu hg => (h.nsl i u g hu hg).sub hs }
theorem Rfm.hs (h : Rfm H M v us fs mv met fv f) {b : Nat} {o : Blk} (hb : ¬ Usd v mv fv us b) : Rfm (hset H b o) M v us fs mv met fv f :=
  h.at fun c hc => hsn (fun e => hb (e ▸ hc))
theorem Rfm.pushf {w : Value} {cA : Nat} {ys : List Value} {g : List ND} (h : Rfm H M v us fs mv met fv f) (hl : ∀ b o, H b = some o → U.B ≤ b ∧ b < N) (hMN : M ≤ N) (hk : ∀ c, c < N → blkOf fv ≠ some c → H' c = H c)
    (hs : IsSl H' w 56 2 (dcs f ++ ys)) (hg : dcs f ++ ys = dcs g) (hc : blkOf w = some cA) (hcl : blkOf fv = some cA ∨ N ≤ cA) : Rfm H' M v us fs mv met w g ∧ ∀ c, c < N → ¬ Usd v mv fv us c → ¬ Usd v mv w us c := by
  have hu : ∀ u ∈ us, ∀ c, blkOf u = some c → c < N := fun u hu c hc => h.lt U hl (.inr (.inr (.inr ⟨u, hu, hc⟩)))
  refine ⟨⟨h.sl.at fun c hv => hk c (h.sl.lt hl hv).2 (fun e => (h.n2 c e).1 hv), h.ul, fun i u g hu' hg => (h.nsl i u g hu' hg).at fun c hv => hk c ((h.nsl i u g hu' hg).lt hl hv).2 (h.n1 u (List.mem_of_getElem? hu') c hv).2.1, h.ms.at fun c hv => hk c (h.ms.lt hl hv).2 (fun e => (h.n2 c e).2 hv), hg ▸ hs, fun c e => ?_, fun u hu' c hv => ⟨(h.n1 u hu' c hv).1, fun e => ?_, (h.n1 u hu' c hv).2.2⟩, fun c e => ⟨fun hv => ?_, fun hv => ?_⟩, h.n3⟩, fun c hcN hn e => ?_⟩
  · rcases e with e | e | e | e
    · exact h.lo c (.inl e)
    · exact h.lo c (.inr (.inl e))
    · rw [hc] at e; cases e
      rcases hcl with e | e
      · exact h.lo _ (.inr (.inr (.inl e)))
      · omega
    · exact h.lo c (.inr (.inr (.inr e)))
  · rw [hc] at e; cases e
    rcases hcl with e | e
    · exact (h.n1 u hu' _ hv).2.1 e
    · have := hu u hu' _ hv; omega
  · rw [hc] at e; cases e
    rcases hcl with e | e
    · exact (h.n2 _ e).1 hv
    · have := (h.sl.lt hl hv).2; omega
  · rw [hc] at e; cases e
    rcases hcl with e | e
    · exact (h.n2 _ e).2 hv
    · have := (h.ms.lt hl hv).2; omega
  · rcases e with e | e | e | e
    · exact hn (.inl e)
    · exact hn (.inr (.inl e))
    · rw [hc] at e; cases e
      rcases hcl with e | e
      · exact hn (.inr (.inr (.inl e)))
      · omega
    · exact hn (.inr (.inr (.inr e)))
theorem Rfm.pushm {w : Value} {cA : Nat} {ys : List Value} {g : List ND} (h : Rfm H M v us fs mv met fv f) (hl : ∀ b o, H b = some o → U.B ≤ b ∧ b < N) (hMN : M ≤ N) (hk : ∀ c, c < N → blkOf mv ≠ some c → H' c = H c)
    (hs : IsSl H' w 56 2 (dcs met ++ ys)) (hg : dcs met ++ ys = dcs g) (hc : blkOf w = some cA) (hcl : blkOf mv = some cA ∨ N ≤ cA) : Rfm H' M v us fs w g fv f := by
  have hu : ∀ u ∈ us, ∀ c, blkOf u = some c → c < N := fun u hu c hc => h.lt U hl (.inr (.inr (.inr ⟨u, hu, hc⟩)))
  refine ⟨h.sl.at fun c hv => hk c (h.sl.lt hl hv).2 (fun e => h.n3 c e hv), h.ul, fun i u g hu' hg => (h.nsl i u g hu' hg).at fun c hv => hk c ((h.nsl i u g hu' hg).lt hl hv).2 (h.n1 u (List.mem_of_getElem? hu') c hv).2.2, hg ▸ hs, h.cur.at fun c hv => hk c (h.cur.lt hl hv).2 (h.n2 c hv).2, fun c e => ?_, fun u hu' c hv => ⟨(h.n1 u hu' c hv).1, (h.n1 u hu' c hv).2.1, fun e => ?_⟩, fun c e => ⟨(h.n2 c e).1, fun hv => ?_⟩, fun c e hv => ?_⟩
  · rcases e with e | e | e | e
    · exact h.lo c (.inl e)
    · rw [hc] at e; cases e
      rcases hcl with e | e
      · exact h.lo _ (.inr (.inl e))
      · omega
    · exact h.lo c (.inr (.inr (.inl e)))
    · exact h.lo c (.inr (.inr (.inr e)))
  · rw [hc] at e; cases e
    rcases hcl with e | e
    · exact (h.n1 u hu' _ hv).2.2 e
    · have := hu u hu' _ hv; omega
  · rw [hc] at hv; cases hv
    rcases hcl with e' | e'
    · exact (h.n2 _ e).2 e'
    · have := (h.cur.lt hl e).2; omega
  · rw [hc] at e; cases e
    rcases hcl with e | e
    · exact h.n3 _ e hv
    · have := (h.sl.lt hl hv).2; omega
theorem Rfm.pusho {w : Value} {cA : Nat} (h : Rfm H M v us fs mv met fv f) (hl : ∀ b o, H b = some o → U.B ≤ b ∧ b < N) (hMN : M ≤ N) (hk : ∀ c, c < N → blkOf v ≠ some c → H' c = H c)
    (hs : IsSl H' w 57 1 (us ++ [fv])) (hc : blkOf w = some cA) (hcl : blkOf v = some cA ∨ N ≤ cA) : Rfm H' M w (us ++ [fv]) (fs ++ [f]) mv met (.slice none 0 0) [] := by
  have hu : ∀ u ∈ us, ∀ c, blkOf u = some c → c < N := fun u hu c hc => h.lt U hl (.inr (.inr (.inr ⟨u, hu, hc⟩)))
  refine ⟨hs, by simp [h.ul], fun i u g hu' hg => ?_, h.ms.at fun c hv => hk c (h.ms.lt hl hv).2 (h.n3 c hv), .inl ⟨rfl, rfl⟩, fun c e => ?_, fun u hu' c hv => ⟨fun e => ?_, (fun e => by cases e), ?_⟩, (fun c e => by cases e), fun c e hv => ?_⟩
  · rcases Nat.lt_or_ge i us.length with h1 | h1
    · rw [List.getElem?_append_left h1] at hu'
      rw [List.getElem?_append_left (by rw [← h.ul]; exact h1)] at hg
      exact (h.nsl i u g hu' hg).at fun c hv => hk c ((h.nsl i u g hu' hg).lt hl hv).2 (h.n1 u (List.mem_of_getElem? hu') c hv).1
    · rw [List.getElem?_append_right h1] at hu'
      rw [List.getElem?_append_right (by rw [← h.ul]; exact h1)] at hg
      have h0 : i - us.length = 0 := by
        rcases Nat.eq_zero_or_pos (i - us.length) with h' | h'
        · exact h'
        · rw [List.getElem?_eq_none (by simp; omega)] at hu'; cases hu'
      rw [h0] at hu'
      rw [← h.ul, h0] at hg
      simp at hu' hg; subst hu'; subst hg
      exact h.cur.at fun c hv => hk c (h.cur.lt hl hv).2 (h.n2 c hv).1
  · rcases e with e | e | e | ⟨u, hu', e⟩
    · rw [hc] at e; cases e
      rcases hcl with e | e
      · exact h.lo _ (.inl e)
      · omega
    · exact h.lo c (.inr (.inl e))
    · cases e
    · rcases List.mem_append.1 hu' with h1 | h1
      · exact h.lo c (.inr (.inr (.inr ⟨u, h1, e⟩)))
      · simp at h1; subst h1; exact h.lo c (.inr (.inr (.inl e)))
  · rw [hc] at e; cases e
    rcases List.mem_append.1 hu' with h1 | h1
    · rcases hcl with e | e
      · exact (h.n1 u h1 _ hv).1 e
      · have := hu u h1 _ hv; omega
    · simp at h1; subst h1
      rcases hcl with e | e
      · exact (h.n2 _ hv).1 e
      · have := (h.cur.lt hl hv).2; omega
  · rcases List.mem_append.1 hu' with h1 | h1
    · exact (h.n1 u h1 c hv).2.2
    · simp at h1; subst h1; exact (h.n2 c hv).2
  · rw [hc] at hv; cases hv
    rcases hcl with e' | e'
    · exact h.n3 _ e e'
    · have := (h.ms.lt hl e).2; omega
/-- The face that is under way is forgotten. -/
theorem Rfm.drop (h : Rfm H M v us fs mv met fv f) : Rfm H M v us fs mv met (.slice none 0 0) [] :=
  { h with cur := .inl ⟨rfl, rfl⟩, lo := fun c e => by rcases e with e | e | e | e; exact h.lo c (.inl e); exact h.lo c (.inr (.inl e)); cases e; exact h.lo c (.inr (.inr (.inr e))), n1 := fun u hu c hv => ⟨(h.n1 u hu c hv).1, (fun e => by cases e), (h.n1 u hu c hv).2.2⟩, n2 := (fun c e => by cases e) }
theorem Rfm.rd (h : Rfm H M v us fs mv met fv f) (hB : ∀ b o, H b = some o → U.B ≤ b) : RdF U H v fs := ⟨us, h.sl.rds U hB, h.ul, fun i u g hu hg => (h.nsl i u g hu hg).rds U hB⟩
end
/-! The walk round a face -/
def Wr (nx : ND → ND) (m : Nat) (d : ND) (f : List ND) (x : ND) : Prop := (f = [] ∧ x = d) ∨ (0 < f.length ∧ f.length ≤ m + 1 ∧ x ≠ d ∧ orbO nx m d = f ++ goO nx d x (m + 1 - f.length))
theorem Wr.step {nx : ND → ND} {m : Nat} {d x : ND} {f : List ND} (h : Wr nx m d f x) (hf : f.length ≤ m) : orbO nx m d = (f ++ [x]) ++ goO nx d (nx x) (m + 1 - (f ++ [x]).length) := by
  rcases h with ⟨rfl, rfl⟩ | ⟨h1, h2, h3, h4⟩
  · simp [orbO]
  · rw [h4, show m + 1 - f.length = (m + 1 - (f ++ [x]).length) + 1 by simp; omega]
    simp only [goO, if_neg h3, List.append_assoc, List.singleton_append]
theorem goO_self (nx : ND → ND) (d : ND) (k : Nat) : goO nx d d k = [] := by cases k <;> simp [goO]
theorem Wr.full {nx : ND → ND} {m : Nat} {d x : ND} {f : List ND} (h : Wr nx m d f x) (hf : ¬ f.length ≤ m) : f = orbO nx m d := by
  rcases h with ⟨rfl, rfl⟩ | ⟨h1, h2, h3, h4⟩
  · simp at hf
  · rw [h4, show m + 1 - f.length = 0 by omega]; simp [goO]
theorem pairsL_drop {n i j : Nat} (hi : i < n) (hj : j < n) : (pairsL n).drop (i * n + j) = (i, j) :: (pairsL n).drop (i * n + j + 1) := by
  have hn : 0 < n := by omega
  have hlt : i * n + j < n * n := by
    have : (i + 1) * n ≤ n * n := Nat.mul_le_mul_right n hi
    rw [Nat.succ_mul] at this; omega
  have hl : i * n + j < (pairsL n).length := by simp [pairsL]; exact hlt
  rw [List.drop_eq_getElem_cons hl]
  congr 1
  simp only [pairsL, List.getElem_map, List.getElem_range]
  have e1 : (i * n + j) / n = i := by rw [Nat.mul_comm, Nat.mul_add_div hn, Nat.div_eq_of_lt hj]; rfl
  have e2 : (i * n + j) % n = j := by rw [Nat.mul_comm, Nat.mul_add_mod, Nat.mod_eq_of_lt hj]
  rw [e1, e2]
def isD (rs : List (List Nat)) (d : ND) : Bool := decide (d.2 ∈ rs.getD d.1 [])
/-- All the faces: of the pairs from 'k' on, the rest. -/
structure FR (n : Nat) (E : List NE) (rs : List (List Nat)) (k : Nat) (fs : List (List ND)) (met : List ND) : Prop where
  eq : facesL n E rs = fs ++ facesO (nxtD rs) (2 * E.length) met (((pairsL n).drop k).filter (isD rs))
  fl : fs.length ≤ k
  ml : met.length ≤ fs.length * 3000
theorem FR.start (n : Nat) (E : List NE) (rs : List (List Nat)) : FR n E rs 0 [] [] := ⟨rfl, Nat.le_refl _, Nat.zero_le _⟩
section
variable {n : Nat} {E : List NE} {rs : List (List Nat)} {i j : Nat} {fs : List (List ND)} {met : List ND}
theorem FR.no (h : FR n E rs (i * n + j) fs met) (hi : i < n) (hj : j < n) (hd : j ∉ rs.getD i []) : FR n E rs (i * n + (j + 1)) fs met := by
  refine ⟨?_, by have := h.fl; omega, h.ml⟩
  rw [h.eq, pairsL_drop hi hj, List.filter_cons_of_neg (by simpa [isD] using hd)]; rfl
theorem FR.old (h : FR n E rs (i * n + j) fs met) (hi : i < n) (hj : j < n) (hm : (i, j) ∈ met) : FR n E rs (i * n + (j + 1)) fs met := by
  by_cases hd : j ∈ rs.getD i []
  · refine ⟨?_, by have := h.fl; omega, h.ml⟩
    rw [h.eq, pairsL_drop hi hj, List.filter_cons_of_pos (by simpa [isD] using hd)]
    simp only [facesO, if_pos hm]; rfl
  · exact h.no hi hj hd
theorem orbO_len {nx : ND → ND} {m : Nat} {d : ND} : (orbO nx m d).length ≤ m + 1 := by
  have : ∀ k x, (goO nx d x k).length ≤ k := fun k => by
    induction k with
    | zero => intro x; simp [goO]
    | succ k ih => intro x; simp only [goO]; split <;> simp; exact ih _
  simp [orbO]; exact this _ _
theorem FR.face (h : FR n E rs (i * n + j) fs met) (hE : E.length ≤ 1000) (hi : i < n) (hj : j < n) (hd : j ∈ rs.getD i []) (hm : (i, j) ∉ met) : FR n E rs (i * n + (j + 1)) (fs ++ [orbO (nxtD rs) (2 * E.length) (i, j)]) (met ++ orbO (nxtD rs) (2 * E.length) (i, j)) := by
  refine ⟨?_, by have := h.fl; simp; omega, by have := h.ml; have := orbO_len (nx := nxtD rs) (m := 2 * E.length) (d := (i, j)); simp only [List.length_append, List.length_singleton]; omega⟩
  rw [h.eq, pairsL_drop hi hj, List.filter_cons_of_pos (by simpa [isD] using hd)]
  simp only [facesO, if_neg hm, List.append_assoc, List.singleton_append]; rfl
end
theorem mem_castL {r : List Nat} {j : Nat} : ((j : Nat) : Int) ∈ castL r ↔ j ∈ r := by
  unfold castL; rw [List.mem_map]
  constructor
  · rintro ⟨x, hx, e⟩; obtain rfl : x = j := by omega
    exact hx
  · exact fun h => ⟨j, h, rfl⟩
theorem s25 (n : Nat) (E : List NE) (sv rv : Value) (rs : List (List Nat)) (hg : GOk n E) (hR : Rot n E rs) (hrl : ∀ r ∈ rs, r.length ≤ 1000) (H : Hp) (N : Nat) (hv : RdS U H sv 3 (necs E)) (hr : Rd2 U H rv rs) : Spec U 25 #[(.agg #[(.int .i64 ((n : Nat) : Int)), sv]), rv] H N (fun v H' N' => RdF U H' v (facesL n E rs) ∧ Sub H H' ∧ N ≤ N') := by
  obtain ⟨p, cap, rfl, hc, hp⟩ := hv.edges U
  have hr0 := hr
  obtain ⟨rp, rcap, rus, rfl, hrp, hrus, hrv⟩ := hr.open U
  have hn := hg.hn; have hm := hg.hm; have hrn := hR.len; have htn := hR.turn; have hrul := hrv.1
  refine spa U pf_25 (m := 69) rfl rfl (by simp) fun hBN hlt => ?_
  obtain ⟨J, hJ⟩ := Has.ex (T := argsT #[(.agg #[(.int .i64 ((n : Nat) : Int)), (.slice p E.length cap)]), (.slice rp rs.length rcap)]) (l := [(0, (.agg #[(.int .i64 ((n : Nat) : Int)), (.slice p E.length cap)])), (1, (.slice rp rs.length rcap))]) ⟨rfl, rfl, trivial⟩
  rw [hJ]; clear hJ
  repeat (first|refine nt ?_|refine nq ?_|refine wq U ?_)
  refine wg U ?_
  refine wl_op U rfl rfl (op_box U rfl rfl ?_)
  refine wr U ((ra U).to (v' := (.slice none 0 0)) rfl) rfl rfl ?_
  refine wz U ?_
  repeat (first|refine nt ?_|refine nq ?_)
  refine wc_gen U (fun R => R N = some (.row 24 0 [(.int .i64 ((n : Nat) : Int)), (.slice p E.length cap)] 2) ∧ Sub _ R) ⟨(by first|(rw [hsy]; done) | (rw [hsy]; rfl)), ((Sub.refl _).hset (fresh hlt (by omega)))⟩ ?_
  rintro R ⟨hx_1, hs⟩ hBNR hltR
  repeat (first|refine nt ?_|refine nq ?_|refine wq U ?_)
  refine wg U ?_
  refine wr U ((ra U).to (v' := (.slice none 0 0)) rfl) rfl rfl ?_
  refine wz U ?_
  repeat (first|refine nt ?_|refine nq ?_|refine wq U ?_)
  refine wg U ?_
  refine wr U ((ra U).to (v' := (.slice none 0 0)) rfl) rfl rfl ?_
  refine wz U ?_
  repeat (first|refine nt ?_|refine nq ?_|refine wq U ?_)
  refine wg U ?_
  refine wr U ((ra U).to (v' := (.int .i64 0)) rfl) rfl rfl ?_
  refine wz U ?_
  repeat (first|refine nt ?_|refine nq ?_|refine wq U ?_)
  refine wc_block U ?_
  refine wc_loop U (fun m T H' N' => ∃ (i : Nat) (us : List Value) (fs : List (List ND)) (met : List ND) (ov mv : Value), i ≤ n ∧ m = n - i ∧ Has T [(1, (.slice rp rs.length rcap)), (2, (.pointer (some ⟨N, 0, none⟩))), (5, ov), (6, mv), (7, (.int .i64 ((i : Nat) : Int)))] ∧ FR n E rs (i * n) fs met ∧ Rfm H' (N + 1) ov us fs mv met (.slice none 0 0) [] ∧ Sub R H' ∧ N + 1 ≤ N') n ⟨0, [], [], [], .slice none 0 0, .slice none 0 0, Nat.zero_le _, rfl, ⟨rfl, rfl, rfl, rfl, rfl, trivial⟩, by rw [Nat.zero_mul]; exact FR.start n E rs, Rfm.start _ _, Sub.refl _, Nat.le_refl _⟩ ?_
  rintro m T H1 N1 ⟨i, us, fs, met, ov, mv, hi, rfl, hT, hF, hM, hs1, hN1⟩
  obtain ⟨J, rfl⟩ := hT.ex
  refine wc_own U fun hBN1 hlt1 => ?_
  have hNB : U.B ≤ N := hBN
  repeat (first|refine nt ?_|refine nq ?_|refine wq U ?_)
  refine wg U ?_
  refine wr U ((rm U).to (v' := (.int .i64 ((i : Nat) : Int))) rfl) rfl rfl ?_
  refine wr U ((rfa U fb_24_0 rfl).to (v' := (.pointer (some ⟨N, 0, none⟩))) rfl) rfl rfl ?_
  refine wr U (rl1 U el_3 rfl (v := (.int .i64 ((n : Nat) : Int))) (by rw [rrw U (by omega) (hs1 _ _ hx_1)]; rfl)) rfl rfl ?_
  refine wr U (rd_lss U rfl rfl) rfl rfl ?_
  refine wz U ?_
  repeat (first|refine nt ?_|refine nq ?_|refine wq U ?_)
  refine wcd U (t := (decide (((i : Nat) : Int) < ((n : Nat) : Int)))) rfl (fun hck => ?_) fun hck => ?_
  · replace hck := of_decide_eq_true hck
    refine wsk U ?_
    repeat (first|refine nt ?_|refine nq ?_)
    have hi1 : i < n := by omega
    obtain ⟨rb, ro, rfl⟩ := hrp (by omega)
    obtain ⟨ru, hru⟩ := get_ex (l := rus) (i := i) (by omega)
    obtain ⟨r, hri⟩ := get_ex (l := rs) (i := i) (by omega)
    have hrr := hrv.2 i ru r hru hri
    have hrD : rs.getD i [] = r := by rw [List.getD_eq_getElem?_getD, hri]; rfl
    have hrll := hrl r (List.mem_of_getElem? hri)
    have hnn : i * n + n ≤ 4096 := by have h1 : (i + 1) * n ≤ 64 * 64 := Nat.mul_le_mul (by omega) hn; rw [Nat.succ_mul] at h1; omega
    repeat (first|refine nt ?_|refine nq ?_|refine wq U ?_)
    refine wc_block U ?_
    repeat (first|refine nt ?_|refine nq ?_|refine wq U ?_)
    refine wg U ?_
    refine wr U ((ra U).to (v' := (.int .i64 0)) rfl) rfl rfl ?_
    refine wz U ?_
    repeat (first|refine nt ?_|refine nq ?_|refine wq U ?_)
    refine wc_block U ?_
    refine wc_loop U (fun m T H' N' => ∃ (j : Nat) (us : List Value) (fs : List (List ND)) (met : List ND) (ov mv : Value), j ≤ n ∧ m = n - j ∧ Has T [(1, (.slice (some ⟨rb, ro, none⟩) rs.length rcap)), (2, (.pointer (some ⟨N, 0, none⟩))), (5, ov), (6, mv), (7, (.int .i64 ((i : Nat) : Int))), (8, (.int .i64 ((j : Nat) : Int)))] ∧ FR n E rs (i * n + j) fs met ∧ Rfm H' (N + 1) ov us fs mv met (.slice none 0 0) [] ∧ Sub R H' ∧ N + 1 ≤ N') n ⟨0, us, fs, met, ov, mv, Nat.zero_le _, rfl, ⟨rfl, rfl, rfl, rfl, rfl, rfl, trivial⟩, hF, hM, hs1, hN1⟩ ?_
    clear hF hM hs1 hN1 hBN1 hlt1 hT us fs met ov mv
    rintro m T H2 N2 ⟨j, us, fs, met, ov, mv, hj, rfl, hT, hF, hM, hs2, hN2⟩
    obtain ⟨J, rfl⟩ := hT.ex
    refine wc_own U fun hBN2 hlt2 => ?_
    repeat (first|refine nt ?_|refine nq ?_|refine wq U ?_)
    refine wg U ?_
    refine wr U ((rm U).to (v' := (.int .i64 ((j : Nat) : Int))) rfl) rfl rfl ?_
    refine wr U ((rfa U fb_24_0 rfl).to (v' := (.pointer (some ⟨N, 0, none⟩))) rfl) rfl rfl ?_
    refine wr U (rl1 U el_3 rfl (v := (.int .i64 ((n : Nat) : Int))) (by rw [rrw U (by omega) (hs2 _ _ hx_1)]; rfl)) rfl rfl ?_
    refine wr U (rd_lss U rfl rfl) rfl rfl ?_
    refine wz U ?_
    repeat (first|refine nt ?_|refine nq ?_|refine wq U ?_)
    refine wcd U (t := (decide (((j : Nat) : Int) < ((n : Nat) : Int)))) rfl (fun hcj => ?_) fun hcj => ?_
    · replace hcj := of_decide_eq_true hcj
      refine wsk U ?_
      repeat (first|refine nt ?_|refine nq ?_)
      have hj1 : j < n := by omega
      have hfl := hF.fl; have hml := hF.ml
      repeat (first|refine nt ?_|refine nq ?_|refine wq U ?_)
      refine wc_block U ?_
      repeat (first|refine nt ?_|refine nq ?_|refine wq U ?_)
      refine wg U ?_
      refine wr U ((rm U).to (v' := (.int .i64 ((i : Nat) : Int))) rfl) rfl rfl ?_
      refine wr U ((rm U).to (v' := (.int .i64 ((j : Nat) : Int))) rfl) rfl rfl ?_
      refine wr U (rd_build U (cells := #[(.int .i64 ((i : Nat) : Int)), (.int .i64 ((j : Nat) : Int))]) (by unfold P; kernel_rfl)) rfl rfl ?_
      refine wl_op U rfl rfl (op_alloc U z_56 rfl ?_)
      refine wl_op0 U rfl (op_store U (vs := [(.int .i64 ((i : Nat) : Int)), (.int .i64 ((j : Nat) : Int))]) (cs := [(.int .i64 0), (.int .i64 0)]) el_56 rfl rfl rfl rfl (one2 rfl rfl) (by first|(rw [hsy]; done) | (rw [hsy]; rfl)) (by omega) (by simp) ?_)
      refine wz U ?_
      repeat (first|refine nt ?_|refine nq ?_)
      refine wc_gen U (fun R => R N2 = some (.row 56 0 [(.int .i64 ((i : Nat) : Int)), (.int .i64 ((j : Nat) : Int))] 2) ∧ Sub H2 R) ⟨hsy, ((Sub.refl H2).hset (fresh hlt2 (by omega))).hset (fresh hlt2 (by omega))⟩ ?_
      rintro H3 ⟨hd3, hs23⟩ hBN3 hlt3
      have hM3 := hM.sub hs23
      have hs3 := hs2.trans hs23
      have hu9 : ¬ Usd ov mv (.slice none 0 0) us N2 := fun h => by have := hM.lt U hlt2 h; omega
      repeat (first|refine nt ?_|refine nq ?_|refine wq U ?_)
      refine wg U ?_
      refine wr U ((rm U).to (v' := (.slice (some ⟨rb, ro, none⟩) rs.length rcap)) rfl) rfl rfl ?_
      refine wr U ((rm U).to (v' := (.int .i64 ((i : Nat) : Int))) rfl) rfl rfl ?_
      refine wr U (rd_idx1 U (j := i) sl_25 rfl rfl (by omega)) rfl rfl ?_
      refine wr U (rl1 U el_26 rfl (v := ru) ((hrus.sub U (hs.trans hs3)).get U hru)) rfl rfl ?_
      refine wr U ((rm U).to (v' := (.int .i64 ((j : Nat) : Int))) rfl) rfl rfl ?_
      refine wl_op U rfl rfl (op_call U Tryz.f16 rfl rfl pf_16 (by kernel_rfl) (by kernel_rfl) ((s16 U (castL r) ((j : Nat) : Int) ru (by simp [castL]; omega) H3 (N2 + 1) (by rw [ints_cast]; exact (hrr.sub U (hs.trans hs3)))).mono U ?_))
      rintro _ _ _ ⟨rfl, rfl, rfl⟩
      obtain ⟨b, hb⟩ : ∃ b, decide (((j : Nat) : Int) ∈ castL r) = b := ⟨_, rfl⟩
      rw [hb]
      cases b
      · skip
        refine wr U ((rd_not U rfl).to (v' := (.bool true)) rfl) rfl rfl ?_
        refine wr U ((rm U).to (v' := (.bool true)) rfl) rfl rfl ?_
        refine wl_pass U rfl rfl ?_
        refine wl_pass U rfl rfl ?_
        refine wl_pass U rfl rfl ?_
        refine wr U ((rd_pick U rfl).to (v' := (.bool true)) rfl) rfl rfl ?_
        refine wz U ?_
        repeat (first|refine nt ?_|refine nq ?_|refine wq U ?_)
        refine wcd U (t := true) rfl (fun _ => ?_) (fun h => nomatch h)
        refine wc_exit U ?_
        repeat (first|refine xt ?_|refine xps (by decide) ?_)
        refine xbl ?_
        repeat (first|refine nt ?_|refine nq ?_)
        repeat (first|refine nt ?_|refine nq ?_|refine wq U ?_)
        refine wg U ?_
        refine wr U ((rm U).to (v' := (.int .i64 ((j : Nat) : Int))) rfl) rfl rfl ?_
        refine wr U (rd_add U rfl rfl (by omega) (by omega)) rfl rfl ?_
        refine wr U ((ra U).to (v' := (.int .i64 (((j : Nat) : Int) + 1))) rfl) rfl rfl ?_
        refine wz U ?_
        repeat (first|refine nt ?_|refine nq ?_)
        exact ⟨n - (j + 1), by omega, j + 1, us, fs, met, ov, mv, by omega, rfl, ⟨rfl, rfl, rfl, rfl, rfl, rfl, trivial⟩, (hF.no hi1 hj1 (by rw [hrD]; exact fun h => of_decide_eq_false hb (mem_castL.2 h))), hM3, hs3, by omega⟩
      · skip
        refine wr U ((rd_not U rfl).to (v' := (.bool false)) rfl) rfl rfl ?_
        refine wr U ((rm U).to (v' := (.bool false)) rfl) rfl rfl ?_
        refine wr U ((rm U).to (v' := mv) rfl) rfl rfl ?_
        refine wr U (rd_load2 U el_56 rfl (v0 := (.int .i64 ((i : Nat) : Int))) (v1 := (.int .i64 ((j : Nat) : Int)))  (by rw [rrw U (by omega) hd3]; rfl) (by rw [rrw U (by omega) hd3]; rfl)) rfl rfl ?_
        refine wl_op U rfl rfl (op_call U Tryz.f48 rfl rfl pf_48 (by kernel_rfl) (by kernel_rfl) ((s48 U met (i, j) mv (by omega) H3 (N2 + 1) (hM3.ms.rds U (fun b o h => (hlt3 b o h).1))).mono U ?_))
        rintro _ H4 N4 ⟨rfl, hs4, hN4⟩
        refine wr U ((rd_pick U rfl).to (v' := (.bool (decide ((i, j) ∈ met)))) rfl) rfl rfl ?_
        refine wz U ?_
        repeat (first|refine nt ?_|refine nq ?_|refine wq U ?_)
        refine wcd U (t := (decide ((i, j) ∈ met))) rfl (fun hin => ?_) fun hin => ?_
        · replace hin := of_decide_eq_true hin
          refine wc_exit U ?_
          repeat (first|refine xt ?_|refine xps (by decide) ?_)
          refine xbl ?_
          repeat (first|refine nt ?_|refine nq ?_)
          repeat (first|refine nt ?_|refine nq ?_|refine wq U ?_)
          refine wg U ?_
          refine wr U ((rm U).to (v' := (.int .i64 ((j : Nat) : Int))) rfl) rfl rfl ?_
          refine wr U (rd_add U rfl rfl (by omega) (by omega)) rfl rfl ?_
          refine wr U ((ra U).to (v' := (.int .i64 (((j : Nat) : Int) + 1))) rfl) rfl rfl ?_
          refine wz U ?_
          repeat (first|refine nt ?_|refine nq ?_)
          exact ⟨n - (j + 1), by omega, j + 1, us, fs, met, ov, mv, by omega, rfl, ⟨rfl, rfl, rfl, rfl, rfl, rfl, trivial⟩, (hF.old hi1 hj1 hin), (hM3.sub hs4), (hs3.trans hs4), by omega⟩
        · replace hin := of_decide_eq_false hin
          have hjr : j ∈ rs.getD i [] := by rw [hrD]; exact mem_castL.1 (of_decide_eq_true hb)
          have had : adj E i j := (hR.mem i j).1 hjr
          refine wsk U ?_
          repeat (first|refine nt ?_|refine nq ?_)
          refine wc_own U fun hBN4 hlt4 => ?_
          have hd4 := hs4 _ _ hd3
          have hM4 := hM3.sub hs4
          have hs24 := hs3.trans hs4
          repeat (first|refine nt ?_|refine nq ?_|refine wq U ?_)
          refine wg U ?_
          refine wr U ((ra U).to (v' := (.slice none 0 0)) rfl) rfl rfl ?_
          refine wz U ?_
          repeat (first|refine nt ?_|refine nq ?_|refine wq U ?_)
          refine wg U ?_
          refine wr U (rd_load2 U el_56 rfl (v0 := (.int .i64 ((i : Nat) : Int))) (v1 := (.int .i64 ((j : Nat) : Int)))  (by rw [rrw U (by omega) hd4]; rfl) (by rw [rrw U (by omega) hd4]; rfl)) rfl rfl ?_
          refine wl_op U rfl rfl (op_alloc U z_56 rfl ?_)
          refine wl_op0 U rfl (op_store U (vs := [(.int .i64 ((i : Nat) : Int)), (.int .i64 ((j : Nat) : Int))]) (cs := [(.int .i64 0), (.int .i64 0)]) el_56 rfl rfl rfl rfl (one2 rfl rfl) (by first|(rw [hsy]; done) | (rw [hsy]; rfl)) (by omega) (by simp) ?_)
          refine wz U ?_
          repeat (first|refine nt ?_|refine nq ?_)
          refine wc_gen U (fun R => R N4 = some (.row 56 0 [(.int .i64 ((i : Nat) : Int)), (.int .i64 ((j : Nat) : Int))] 2) ∧ Sub H4 R) ⟨hsy, ((Sub.refl H4).hset (fresh hlt4 (by omega))).hset (fresh hlt4 (by omega))⟩ ?_
          rintro H5 ⟨hd5, hs45⟩ hBN5 hlt5
          have hM5 := hM4.sub hs45
          have hs5 := hs24.trans hs45
          have hd95 := hs45 _ _ hd4
          have hu11 : ¬ Usd ov mv (.slice none 0 0) us N4 := fun h => by have := hM4.lt U hlt4 h; omega
          repeat (first|refine nt ?_|refine nq ?_|refine wq U ?_)
          refine wc_mid U (fun T H' N' => ∃ (f : List ND) (fp : Option Addr) (fcap : Nat), Has T [(1, (.slice (some ⟨rb, ro, none⟩) rs.length rcap)), (2, (.pointer (some ⟨N, 0, none⟩))), (5, ov), (6, mv), (7, (.int .i64 ((i : Nat) : Int))), (8, (.int .i64 ((j : Nat) : Int))), (10, (.slice fp f.length fcap))] ∧ f = orbO (nxtD rs) (2 * E.length) (i, j) ∧ Rfm H' (N + 1) ov us fs mv met (.slice fp f.length fcap) f ∧ Sub R H' ∧ N + 1 ≤ N') ?_ ?_
          · skip
            refine wc_block U ?_
            refine wc_loop U (fun m T H' N' => ∃ (f : List ND) (x : ND) (fp : Option Addr) (fcap b11 : Nat), m = 2 * E.length + 1 - f.length ∧ Has T [(1, (.slice (some ⟨rb, ro, none⟩) rs.length rcap)), (2, (.pointer (some ⟨N, 0, none⟩))), (5, ov), (6, mv), (7, (.int .i64 ((i : Nat) : Int))), (8, (.int .i64 ((j : Nat) : Int))), (9, (.pointer (some ⟨N2, 0, none⟩))), (10, (.slice fp f.length fcap)), (11, (.pointer (some ⟨b11, 0, none⟩)))] ∧ Wr (nxtD rs) (2 * E.length) (i, j) f x ∧ adj E x.1 x.2 ∧ Rfm H' (N + 1) ov us fs mv met (.slice fp f.length fcap) f ∧ H' N2 = some (.row 56 0 [(.int .i64 ((i : Nat) : Int)), (.int .i64 ((j : Nat) : Int))] 2) ∧ H' b11 = some (.row 56 0 [(.int .i64 ((x.1 : Nat) : Int)), (.int .i64 ((x.2 : Nat) : Int))] 2) ∧ ¬ Usd ov mv (.slice fp f.length fcap) us N2 ∧ ¬ Usd ov mv (.slice fp f.length fcap) us b11 ∧ N2 ≠ b11 ∧ N + 1 ≤ b11 ∧ Sub R H' ∧ N2 + 1 ≤ N') (2 * E.length + 1) ⟨[], (i, j), none, 0, N4, rfl, ⟨rfl, rfl, rfl, rfl, rfl, rfl, rfl, rfl, rfl, trivial⟩, .inl ⟨rfl, rfl⟩, had, hM5, hd95, hd5, hu9, hu11, by omega, by omega, hs5, by omega⟩ ?_
            rintro m T H6 N6 ⟨f, x, fp, fcap, b11, rfl, hT, hW, hax, hM6, hd6, hx6, hu9f, hu11f, hne, hb11, hs6, hN6⟩
            obtain ⟨J, rfl⟩ := hT.ex
            refine wc_own U fun hBN6 hlt6 => ?_
            have hb11l := (hlt6 _ _ hx6).2
            repeat (first|refine nt ?_|refine nq ?_|refine wq U ?_)
            refine wg U ?_
            refine wr U ((rm U).to (v' := (.slice fp f.length fcap)) rfl) rfl rfl ?_
            refine wr U ((rd_len' U sl_57 rfl).to (v' := (.int .i64 ((f.length : Nat) : Int))) rfl) rfl rfl ?_
            refine wr U ((rfa U fb_24_1 rfl).to (v' := (.pointer (some ⟨N, 1, none⟩))) rfl) rfl rfl ?_
            refine wr U (rl1 U el_22 rfl (v := (.slice p E.length cap)) (by rw [rrw U (by omega) (hs6 _ _ hx_1)]; rfl)) rfl rfl ?_
            refine wr U ((rd_len' U sl_22 rfl).to (v' := (.int .i64 ((E.length : Nat) : Int))) rfl) rfl rfl ?_
            refine wr U (rd_mul U rfl rfl (by omega) (by omega)) rfl rfl ?_
            refine wr U (rd_leq U rfl rfl) rfl rfl ?_
            refine wz U ?_
            repeat (first|refine nt ?_|refine nq ?_|refine wq U ?_)
            refine wcd U (t := (decide (((f.length : Nat) : Int) ≤ 2 * ((E.length : Nat) : Int)))) rfl (fun hcl => ?_) fun hcl => ?_
            · replace hcl := of_decide_eq_true hcl
              refine wsk U ?_
              repeat (first|refine nt ?_|refine nq ?_)
              have hfm : f.length ≤ 2 * E.length := by omega
              repeat (first|refine nt ?_|refine nq ?_|refine wq U ?_)
              refine wc_block U ?_
              repeat (first|refine nt ?_|refine nq ?_|refine wq U ?_)
              refine wg U ?_
              refine wr U ((rm U).to (v' := (.slice fp f.length fcap)) rfl) rfl rfl ?_
              refine wr U (rd_load2 U el_56 rfl (v0 := (.int .i64 ((x.1 : Nat) : Int))) (v1 := (.int .i64 ((x.2 : Nat) : Int)))  (by rw [rrw U (by omega) hx6]; rfl) (by rw [rrw U (by omega) hx6]; rfl)) rfl rfl ?_
              refine wl_op U rfl rfl (op_bs U sl_57 rfl (by decide) (by decide) [(.agg #[(.int .i64 ((x.1 : Nat) : Int)), (.int .i64 ((x.2 : Nat) : Int))])] rfl (by simp [Value.cells]) rfl (cs := [(.int .i64 ((x.1 : Nat) : Int)), (.int .i64 ((x.2 : Nat) : Int))]) rfl ?_)
              refine wl_op U rfl rfl (op_append1 U (H0 := _) (cs := dcs f) (ys := [(.int .i64 ((x.1 : Nat) : Int)), (.int .i64 ((x.2 : Nat) : Int))]) sl_57 rfl (by decide) rfl hM6.cur (fun hc => by have := (hM6.cur.lt hlt6 hc).2; omega) rfl rfl rfl (by omega) (one2 rfl rfl) (by rw [dcs_length]; omega) (by rw [dcs_length]; omega) ?_)
              intro wA HA NA hNA hslA hfrA hloA
              refine wr U ((ra U).to (v' := wA) rfl) rfl rfl ?_
              refine wz U ?_
              repeat (first|refine nt ?_|refine nq ?_)
              obtain ⟨cA, hcA1, hcA2, hcA3⟩ := hloA
              have hA : ∀ c, c < N6 → blkOf (.slice fp f.length fcap) ≠ some c → HA c = H6 c := fun c hc hne => (hfrA c (by omega) hne).trans (hsn (by omega))
              obtain ⟨hMA, hUA⟩ := hM6.pushf U hlt6 (by omega) hA hslA (g := f ++ [x]) (by rw [dcs_append]; rfl) hcA1 (hcA3.imp id (fun h => by omega))
              have hu9A := hUA _ (by omega) hu9f; have hu11A := hUA _ hb11l hu11f
              have hd9A := (hA N2 (by omega) (fun e => hu9f (.inr (.inr (.inl e))))).trans hd6
              have hx11A := (hA b11 hb11l (fun e => hu11f (.inr (.inr (.inl e))))).trans hx6
              have hsA : Sub R HA := hs6.of fun c o hc => hA c (by have := (hltR c o hc).2; omega) (fun e => by have := hM6.lo c (.inr (.inr (.inl e))); have := (hltR c o hc).2; omega)
              obtain ⟨fp2, k2, fcap2, rfl, hk2, hkc2, _⟩ := hslA.form
              obtain rfl : (f ++ [x]).length = k2 := by simp only [List.length_append, dcs_length, List.length_cons, List.length_nil] at hk2 ⊢; omega
              refine wc_own U fun hBNA hltA => ?_
              have hB11 := (hltA _ _ hx11A).1; have hB9 := (hltA _ _ hd9A).1
              repeat (first|refine nt ?_|refine nq ?_|refine wq U ?_)
              refine wg U ?_
              refine wr U ((rm U).to (v' := (.slice (some ⟨rb, ro, none⟩) rs.length rcap)) rfl) rfl rfl ?_
              refine wr U (rd_load2 U el_56 rfl (v0 := (.int .i64 ((x.1 : Nat) : Int))) (v1 := (.int .i64 ((x.2 : Nat) : Int)))  (by rw [rrw U (by omega) hx11A]; rfl) (by rw [rrw U (by omega) hx11A]; rfl)) rfl rfl ?_
              refine wl_op U rfl rfl (op_call U Tryz.f49 rfl rfl pf_49 (by kernel_rfl) (by kernel_rfl) ((s49 U n E _ rs x hg hR hax hrl _ _ ((hr0.sub U hs).sub U hsA)).mono U ?_))
              rintro _ HB NB ⟨rfl, hsB, hNB⟩
              have hd9B := hsB _ _ hd9A
              have hx11B := hsB _ _ hx11A
              have hMB := hMA.sub hsB
              have hsRB := hsA.trans hsB
              refine wr U ((rm U).to (v' := (.tuple #[(.agg #[(.int .i64 (((nxtD rs x).1 : Nat) : Int)), (.int .i64 (((nxtD rs x).2 : Nat) : Int))]), (.bool true)])) rfl) rfl rfl ?_
              refine wr U ((rd_extract U rfl rfl).to (v' := (.agg #[(.int .i64 (((nxtD rs x).1 : Nat) : Int)), (.int .i64 (((nxtD rs x).2 : Nat) : Int))])) rfl) rfl rfl ?_
              refine wr U ((rd_extract U rfl rfl).to (v' := (.bool true)) rfl) rfl rfl ?_
              refine wl_op0 U rfl (op_store U (vs := [(.int .i64 (((nxtD rs x).1 : Nat) : Int)), (.int .i64 (((nxtD rs x).2 : Nat) : Int))]) (cs := [(.int .i64 ((x.1 : Nat) : Int)), (.int .i64 ((x.2 : Nat) : Int))]) el_56 rfl rfl rfl rfl (one2 rfl rfl) hx11B (by omega) (by simp) ?_)
              refine wz U ?_
              repeat (first|refine nt ?_|refine nq ?_|refine wq U ?_)
              refine wg U ?_
              refine wr U (rd_load2 U el_56 rfl (v0 := (.int .i64 (((nxtD rs x).1 : Nat) : Int))) (v1 := (.int .i64 (((nxtD rs x).2 : Nat) : Int)))  (by rw [rhq U (by omega)]; rfl) (by rw [rhq U (by omega)]; rfl)) rfl rfl ?_
              refine wr U (rd_load2 U el_56 rfl (v0 := (.int .i64 ((i : Nat) : Int))) (v1 := (.int .i64 ((j : Nat) : Int)))  (by rw [rhn U (b := N2) (c := b11) (by omega), rrw U (by omega) hd9B]; rfl) (by rw [rhn U (b := N2) (c := b11) (by omega), rrw U (by omega) hd9B]; rfl)) rfl rfl ?_
              refine wr U ((rd_eqDart U (p := nD (nxtD rs x)) (q := nD (i, j)) rfl rfl rfl).to (v' := (.bool (decide (nxtD rs x = (i, j))))) (dec_nD _ _)) rfl rfl ?_
              refine wz U ?_
              have hMC := hMB.hs (b := b11) (o := .row 56 0 [(.int .i64 (((nxtD rs x).1 : Nat) : Int)), (.int .i64 (((nxtD rs x).2 : Nat) : Int))] 2) hu11A
              have hsC : Sub R (hset HB b11 (.row 56 0 [(.int .i64 (((nxtD rs x).1 : Nat) : Int)), (.int .i64 (((nxtD rs x).2 : Nat) : Int))] 2)) := hsRB.of fun c o hc => hsn (by have := (hltR c o hc).2; omega)
              have hstep := hW.step hfm
              repeat (first|refine nt ?_|refine nq ?_|refine wq U ?_)
              refine wcd U (t := (decide (nxtD rs x = (i, j)))) rfl (fun hback => ?_) fun hback => ?_
              · replace hback := of_decide_eq_true hback
                refine wc_exit U ?_
                repeat (first|refine xt ?_|refine xps (by decide) ?_)
                refine xbl ?_
                repeat (first|refine nt ?_|refine nq ?_)
                rw [hback, goO_self, List.append_nil] at hstep
                exact ⟨rfl, f ++ [x], fp2, fcap2, ⟨rfl, rfl, rfl, rfl, rfl, rfl, rfl, trivial⟩, hstep.symm, hMC, hsC, by omega⟩
              · replace hback := of_decide_eq_false hback
                refine wsk U ?_
                repeat (first|refine nt ?_|refine nq ?_)
                refine wc_own U fun hBNC hltC => ?_
                repeat (first|refine nt ?_|refine nq ?_|refine wq U ?_)
                refine wg U ?_
                refine wr U (rd_load2 U el_56 rfl (v0 := (.int .i64 (((nxtD rs x).1 : Nat) : Int))) (v1 := (.int .i64 (((nxtD rs x).2 : Nat) : Int)))  (by rw [rhq U (by omega)]; rfl) (by rw [rhq U (by omega)]; rfl)) rfl rfl ?_
                refine wz U ?_
                repeat (first|refine nt ?_|refine nq ?_|refine wq U ?_)
                refine wg U ?_
                refine wl_op U rfl rfl (op_alloc U z_56 rfl ?_)
                refine wl_op0 U rfl (op_store U (vs := [(.int .i64 (((nxtD rs x).1 : Nat) : Int)), (.int .i64 (((nxtD rs x).2 : Nat) : Int))]) (cs := [(.int .i64 0), (.int .i64 0)]) el_56 rfl rfl rfl rfl (one2 rfl rfl) (by first|(rw [hsy]; done) | (rw [hsy]; rfl)) (by omega) (by simp) ?_)
                refine wz U ?_
                repeat (first|refine nt ?_|refine nq ?_)
                have hltB : ∀ b o, HB b = some o → U.B ≤ b ∧ b < NB := fun b o h => by by_cases e : b = b11; subst e; exact ⟨hB11, by omega⟩; exact hltC b o ((hsn e).trans h)
                have hlow : ∀ c, c < NB → ∀ o1 o2, hset (hset (hset HB b11 (.row 56 0 [(.int .i64 (((nxtD rs x).1 : Nat) : Int)), (.int .i64 (((nxtD rs x).2 : Nat) : Int))] 2)) NB o1) NB o2 c = (hset HB b11 (.row 56 0 [(.int .i64 (((nxtD rs x).1 : Nat) : Int)), (.int .i64 (((nxtD rs x).2 : Nat) : Int))] 2)) c := fun c hc o1 o2 => by rw [hsn (by omega), hsn (by omega)]
                exact ⟨2 * E.length + 1 - (f ++ [x]).length, by simp; omega, f ++ [x], nxtD rs x, fp2, fcap2, NB, rfl, ⟨rfl, rfl, rfl, rfl, rfl, rfl, rfl, rfl, rfl, trivial⟩, .inr ⟨by simp, by simp; omega, hback, hstep⟩, htn.to x hax, hMC.at (fun c hc => hlow c (hMB.lt U hltB hc) _ _), (hlow _ (by omega) _ _).trans ((hsn hne).trans hd9B), hsy, hu9A, (fun h => by have := hMB.lt U hltB h; omega), by omega, by omega, hsC.of (fun c o hc => hlow c (by have := (hltR c o hc).2; omega) _ _), by omega⟩
            · replace hcl := of_decide_eq_false hcl
              refine wc_exit U ?_
              repeat (first|refine xt ?_|refine xps (by decide) ?_)
              refine xbl ?_
              repeat (first|refine nt ?_|refine nq ?_)
              exact ⟨rfl, f, fp, fcap, ⟨rfl, rfl, rfl, rfl, rfl, rfl, rfl, trivial⟩, hW.full (by omega), hM6, hs6, by omega⟩
          rintro T H7 N7 ⟨f, fp, fcap, hT, hfo, hM7, hs7, hN7⟩
          obtain ⟨J, rfl⟩ := hT.ex
          refine wc_own U fun hBN7 hlt7 => ?_
          have hol := orbO_len (nx := nxtD rs) (m := 2 * E.length) (d := (i, j))
          rw [← hfo] at hol
          have hf0 : 0 < f.length := by rw [hfo]; simp [orbO]
          obtain ⟨fb, fo, hfe⟩ : ∃ b off, fp = some ⟨b, off, none⟩ := by
            rcases hM7.cur with ⟨h, h2⟩ | ⟨b, off, k, cap, tot, h, _⟩
            · exfalso; have h3 : (dcs f).length = 0 := by rw [h2]; rfl
              rw [dcs_length] at h3; omega
            · cases h; exact ⟨b, off, rfl⟩
          subst hfe
          repeat (first|refine nt ?_|refine nq ?_|refine wq U ?_)
          refine wg U ?_
          refine wr U ((rm U).to (v' := mv) rfl) rfl rfl ?_
          refine wr U ((rm U).to (v' := (.slice (some ⟨fb, fo, none⟩) f.length fcap)) rfl) rfl rfl ?_
          refine wl_op U rfl rfl (op_appendF U (cs := dcs met) (ys := dcs f) sl_57 rfl (by decide) rfl hM7.ms rfl (by rw [dcs_length]) (fun j u hu => (hM7.cur.rds U (fun b o h => (hlt7 b o h).1)).get U hu) (dcs_one f) hf0 (by rw [dcs_length, dcs_length]; omega) (by rw [dcs_length, dcs_length]; omega) ?_)
          intro wM HM NM hNM hslM hfrM hloM
          refine wr U ((ra U).to (v' := wM) rfl) rfl rfl ?_
          refine wz U ?_
          repeat (first|refine nt ?_|refine nq ?_)
          obtain ⟨cM, hcM1, hcM2, hcM3⟩ := hloM
          have hMM := hM7.pushm U hlt7 (by omega) hfrM hslM (g := met ++ f) (dcs_append met f).symm hcM1 hcM3
          have hsM : Sub R HM := hs7.of fun c o hc => hfrM c (by have := (hltR c o hc).2; omega) (fun e => by have := hM7.lo c (.inr (.inl e)); have := (hltR c o hc).2; omega)
          refine wc_own U fun hBNM hltM => ?_
          have hsul := hMM.ul
          repeat (first|refine nt ?_|refine nq ?_|refine wq U ?_)
          refine wg U ?_
          refine wr U ((rm U).to (v' := ov) rfl) rfl rfl ?_
          refine wr U ((rm U).to (v' := (.slice (some ⟨fb, fo, none⟩) f.length fcap)) rfl) rfl rfl ?_
          refine wl_op U rfl rfl (op_bs U sl_53 rfl (by decide) (by decide) [(.slice (some ⟨fb, fo, none⟩) f.length fcap)] rfl (by simp [Value.cells]) rfl (cs := [(.slice (some ⟨fb, fo, none⟩) f.length fcap)]) rfl ?_)
          refine wl_op U rfl rfl (op_append1 U (H0 := _) (cs := us) (ys := [(.slice (some ⟨fb, fo, none⟩) f.length fcap)]) sl_53 rfl (by decide) rfl hMM.sl (fun hc => by have := (hMM.sl.lt hltM hc).2; omega) rfl rfl rfl (by omega) (one1 rfl) (by omega) (by omega) ?_)
          intro wO HO NO hNO hslO hfrO hloO
          refine wr U ((ra U).to (v' := wO) rfl) rfl rfl ?_
          refine wz U ?_
          repeat (first|refine nt ?_|refine nq ?_)
          obtain ⟨cO, hcO1, hcO2, hcO3⟩ := hloO
          have hO : ∀ c, c < NM → blkOf ov ≠ some c → HO c = HM c := fun c hc hne => (hfrO c (by omega) hne).trans (hsn (by omega))
          have hMO := hMM.pusho U hltM (by omega) hO hslO hcO1 (hcO3.imp id (fun h => by omega))
          have hsO : Sub R HO := hsM.of fun c o hc => hO c (by have := (hltR c o hc).2; omega) (fun e => by have := hMM.lo c (.inl e); have := (hltR c o hc).2; omega)
          repeat (first|refine nt ?_|refine nq ?_|refine wq U ?_)
          refine wg U ?_
          refine wr U ((rm U).to (v' := (.int .i64 ((j : Nat) : Int))) rfl) rfl rfl ?_
          refine wr U (rd_add U rfl rfl (by omega) (by omega)) rfl rfl ?_
          refine wr U ((ra U).to (v' := (.int .i64 (((j : Nat) : Int) + 1))) rfl) rfl rfl ?_
          refine wz U ?_
          repeat (first|refine nt ?_|refine nq ?_)
          exact ⟨n - (j + 1), by omega, j + 1, _, _, _, wO, wM, by omega, rfl, ⟨rfl, rfl, rfl, rfl, rfl, rfl, trivial⟩, hfo ▸ hF.face hm hi1 hj1 hjr hin, hMO, hsO, by omega⟩
    · replace hcj := of_decide_eq_false hcj
      refine wc_exit U ?_
      repeat (first|refine xt ?_|refine xps (by decide) ?_)
      refine xbl ?_
      repeat (first|refine nt ?_|refine nq ?_)
      have hjn : j = n := by omega
      rw [hjn] at hF
      repeat (first|refine nt ?_|refine nq ?_|refine wq U ?_)
      refine wg U ?_
      refine wr U ((rm U).to (v' := (.int .i64 ((i : Nat) : Int))) rfl) rfl rfl ?_
      refine wr U (rd_add U rfl rfl (by omega) (by omega)) rfl rfl ?_
      refine wr U ((ra U).to (v' := (.int .i64 (((i : Nat) : Int) + 1))) rfl) rfl rfl ?_
      refine wz U ?_
      repeat (first|refine nt ?_|refine nq ?_)
      exact ⟨n - (i + 1), by omega, i + 1, us, fs, met, ov, mv, by omega, rfl, ⟨rfl, rfl, rfl, rfl, rfl, trivial⟩, by rw [Nat.succ_mul]; exact hF, hM, hs2, hN2⟩
  · replace hck := of_decide_eq_false hck
    refine wc_exit U ?_
    repeat (first|refine xt ?_|refine xps (by decide) ?_)
    refine xbl ?_
    repeat (first|refine nt ?_|refine nq ?_)
    have hin : i = n := by omega
    rw [hin] at hF
    repeat (first|refine nt ?_|refine nq ?_|refine wq U ?_)
    refine wg U ?_
    refine wr U ((rm U).to (v' := ov) rfl) rfl rfl ?_
    refine wr U ((ra U).to (v' := ov) rfl) rfl rfl ?_
    refine wz U ?_
    have he := hF.eq
    rw [List.drop_eq_nil_of_le (by simp [pairsL]), List.filter_nil] at he
    simp only [facesO, List.append_nil] at he
    refine wc_ret U ?_
    repeat (first|refine ret1 ?_|refine ret2 ?_)
    exact end1 U (.inl rfl) rfl (v := ov) rfl ⟨he ▸ hM.rd U (fun b o h => (hlt1 b o h).1), hs.trans hs1, by omega⟩
end Go.Proofs.YtdmodppoellbkaaGreat
namespace Go.Proofs.YtdmodppoellbkaaGreat
open Go Go.RowKit
variable (U : Cx)
/-- Faces while they grow, and the one that is under way. -/
structure Pcm (H : Hp) (M : Nat) (v : Value) (us : List Value) (fs : List (List Nat)) (fv : Value) (f : List Nat) : Prop where
  sl : IsSl H v 26 1 us
  ul : us.length = fs.length
  nsl : ∀ (i : Nat) (u : Value) (g : List Nat), us[i]? = some u → fs[i]? = some g → IsSl H u 3 1 (nats g)
  cur : IsSl H fv 3 1 (nats f)
  lo : ∀ c, blkOf v = some c → M ≤ c
  nlo : ∀ u ∈ us, ∀ c, blkOf u = some c → M ≤ c
  clo : ∀ c, blkOf fv = some c → M ≤ c
  ne : ∀ u ∈ us, ∀ c, blkOf u = some c → blkOf v ≠ some c ∧ blkOf fv ≠ some c
  ne2 : ∀ c, blkOf fv = some c → blkOf v ≠ some c
theorem Pcm.start (H : Hp) (M : Nat) : Pcm H M (.slice none 0 0) [] [] (.slice none 0 0) [] :=
  ⟨.inl ⟨rfl, rfl⟩, rfl, (fun i u g h => by cases h), .inl ⟨rfl, rfl⟩, (fun c h => by cases h), (fun u h => by cases h), (fun c h => by cases h), (fun u h => by cases h), fun c h => by cases h⟩
section
variable {H H' : Hp} {M N : Nat} {v fv : Value} {us : List Value} {fs : List (List Nat)} {f : List Nat}
theorem Pcm.ult (h : Pcm H M v us fs fv f) (hl : ∀ b o, H b = some o → U.B ≤ b ∧ b < N) {u : Value} (hu : u ∈ us) {c : Nat} (hc : blkOf u = some c) : c < N := by
  obtain ⟨i, hi⟩ := List.mem_iff_getElem?.1 hu
  obtain ⟨g, hg⟩ := get_ex (l := fs) (i := i) (by rw [← h.ul]; exact (List.getElem?_eq_some_iff.1 hi).1)
  exact ((h.nsl i u g hi hg).lt hl hc).2
theorem Pcm.at (h : Pcm H M v us fs fv f) (hl : ∀ b o, H b = some o → U.B ≤ b ∧ b < N) (hk : ∀ c, M ≤ c → c < N → H' c = H c) : Pcm H' M v us fs fv f :=
  { h with
    sl := h.sl.at fun c hc => hk c (h.lo c hc) (h.sl.lt hl hc).2
    nsl := fun i u g hu hg => (h.nsl i u g hu hg).at fun c hc => hk c (h.nlo u (List.mem_of_getElem? hu) c hc) ((h.nsl i u g hu hg).lt hl hc).2
    cur := h.cur.at fun c hc => hk c (h.clo c hc) (h.cur.lt hl hc).2 }
theorem Pcm.pushf {wA : Value} {cA : Nat} {x : Nat} (h : Pcm H M v us fs fv f) (hl : ∀ b o, H b = some o → U.B ≤ b ∧ b < N) (hMN : M ≤ N) (hk : ∀ c, c < N → blkOf fv ≠ some c → H' c = H c)
    (hs : IsSl H' wA 3 1 (nats f ++ [.int .i64 ((x : Nat) : Int)])) (hc : blkOf wA = some cA) (hcl : blkOf fv = some cA ∨ N ≤ cA) : Pcm H' M v us fs wA (f ++ [x]) := by
  refine ⟨h.sl.at fun c hv => hk c (h.sl.lt hl hv).2 (fun e => h.ne2 c e hv), h.ul, fun i u g hu hg => (h.nsl i u g hu hg).at fun c hv => hk c ((h.nsl i u g hu hg).lt hl hv).2 (h.ne u (List.mem_of_getElem? hu) c hv).2, by rw [nats_append]; exact hs, h.lo, h.nlo, fun c e => ?_, fun u hu c hv => ⟨(h.ne u hu c hv).1, fun e => ?_⟩, fun c e hv => ?_⟩
  · rw [hc] at e; cases e
    rcases hcl with e | e
    · exact h.clo _ e
    · omega
  · rw [hc] at e; cases e
    rcases hcl with e | e
    · exact (h.ne u hu _ hv).2 e
    · have := h.ult U hl hu hv; omega
  · rw [hc] at e; cases e
    rcases hcl with e | e
    · exact h.ne2 _ e hv
    · have := (h.sl.lt hl hv).2; omega
theorem Pcm.pusho {wA : Value} {cA : Nat} (h : Pcm H M v us fs fv f) (hl : ∀ b o, H b = some o → U.B ≤ b ∧ b < N) (hMN : M ≤ N) (hk : ∀ c, c < N → blkOf v ≠ some c → H' c = H c)
    (hs : IsSl H' wA 26 1 (us ++ [fv])) (hc : blkOf wA = some cA) (hcl : blkOf v = some cA ∨ N ≤ cA) : Pcm H' M wA (us ++ [fv]) (fs ++ [f]) (.slice none 0 0) [] := by
  refine ⟨hs, by simp [h.ul], fun i u g hu hg => ?_, .inl ⟨rfl, rfl⟩, fun c e => ?_, fun u hu c hv => ?_, (fun c e => by cases e), fun u hu c hv => ⟨fun e => ?_, fun e => by cases e⟩, fun c e => by cases e⟩
  · rcases Nat.lt_or_ge i us.length with h1 | h1
    · rw [List.getElem?_append_left h1] at hu
      rw [List.getElem?_append_left (by rw [← h.ul]; exact h1)] at hg
      exact (h.nsl i u g hu hg).at fun c hv => hk c ((h.nsl i u g hu hg).lt hl hv).2 (h.ne u (List.mem_of_getElem? hu) c hv).1
    · rw [List.getElem?_append_right h1] at hu
      rw [List.getElem?_append_right (by rw [← h.ul]; exact h1)] at hg
      have h0 : i - us.length = 0 := by
        rcases Nat.eq_zero_or_pos (i - us.length) with h' | h'
        · exact h'
        · rw [List.getElem?_eq_none (by simp; omega)] at hu; cases hu
      rw [h0] at hu
      rw [← h.ul, h0] at hg
      simp at hu hg; subst hu; subst hg
      exact h.cur.at fun c hv => hk c (h.cur.lt hl hv).2 (h.ne2 c hv)
  · rw [hc] at e; cases e
    rcases hcl with e | e
    · exact h.lo _ e
    · omega
  · rcases List.mem_append.1 hu with h1 | h1
    · exact h.nlo u h1 c hv
    · simp at h1; subst h1; exact h.clo c hv
  · rw [hc] at e; cases e
    rcases List.mem_append.1 hu with h1 | h1
    · rcases hcl with e | e
      · exact (h.ne u h1 _ hv).1 e
      · have := h.ult U hl h1 hv; omega
    · simp at h1; subst h1
      rcases hcl with e | e
      · exact h.ne2 _ hv e
      · have := (h.cur.lt hl hv).2; omega
theorem Pcm.rd_ (h : Pcm H M v us fs fv f) (hB : ∀ b o, H b = some o → U.B ≤ b) : Rd2 U H v fs := ⟨us, h.sl.rds U hB, h.ul, fun i u g hu hg => (h.nsl i u g hu hg).rds U hB⟩
end
/-! ### Labels that go down -/
def stepL (lab : List Nat) (e : NE) : List Nat := (lab.set e.1 (min (lab.getD e.1 0) (lab.getD e.2.1 0))).set e.2.1 (min (lab.getD e.1 0) (lab.getD e.2.1 0))
def LabI (n : Nat) (E : List NE) (lab : List Nat) : Prop := lab.length = n ∧ ∀ x, x < n → lab.getD x 0 ≤ x ∧ Conn E (lab.getD x 0) x
theorem getD_set1 (l : List Nat) (u a y : Nat) (hu : u < l.length) : (l.set u y).getD a 0 = if a = u then y else l.getD a 0 := by
  simp only [List.getD_eq_getElem?_getD, List.getElem?_set]
  by_cases h : u = a
  · subst h; simp [hu]
  · rw [if_neg h, if_neg (Ne.symm h)]
theorem stepL_get {n : Nat} {lab : List Nat} {e : NE} (hl : lab.length = n) (h1 : e.1 < n) (h2 : e.2.1 < n) (a : Nat) : (stepL lab e).getD a 0 = if a = e.1 ∨ a = e.2.1 then min (lab.getD e.1 0) (lab.getD e.2.1 0) else lab.getD a 0 := by
  unfold stepL
  rw [getD_set1 _ _ _ _ (by rw [List.length_set]; omega), getD_set1 _ _ _ _ (by omega)]
  by_cases h3 : a = e.2.1
  · rw [if_pos h3, if_pos (.inr h3)]
  · rw [if_neg h3]
    by_cases h4 : a = e.1
    · rw [if_pos h4, if_pos (.inl h4)]
    · rw [if_neg h4, if_neg (by omega)]
theorem stepL_inv {n : Nat} {E : List NE} {lab : List Nat} (hg : GOk n E) (h : LabI n E lab) {e : NE} (he : e ∈ E) : LabI n E (stepL lab e) := by
  have hb := hg.he e he
  refine ⟨by unfold stepL; simp [h.1], fun x hx => ?_⟩
  rw [stepL_get h.1 (by omega) (by omega)]
  have a1 := h.2 e.1 (by omega); have a2 := h.2 e.2.1 (by omega)
  have c12 : Conn E e.1 e.2.1 := Conn.step .refl ⟨e, he, .inl ⟨rfl, rfl⟩⟩
  have hm : Conn E (min (lab.getD e.1 0) (lab.getD e.2.1 0)) e.1 := by
    rcases Nat.le_total (lab.getD e.1 0) (lab.getD e.2.1 0) with h3 | h3
    · rw [Nat.min_eq_left h3]; exact a1.2
    · rw [Nat.min_eq_right h3]; exact a2.2.trans c12.symm
  split
  · rename_i hx2
    rcases hx2 with rfl | rfl
    · exact ⟨by omega, hm⟩
    · exact ⟨by omega, hm.trans c12⟩
  · exact h.2 x hx
def MinR (E : List NE) (r : Nat) : Prop := ∀ y, Conn E r y → r ≤ y
theorem LabI.ge {n : Nat} {E : List NE} {lab : List Nat} (h : LabI n E lab) {r x : Nat} (hr : MinR E r) (hx : x < n) (hc : Conn E r x) : r ≤ lab.getD x 0 := hr _ (hc.trans (h.2 x hx).2.symm)
theorem stepL_keep {n : Nat} {E : List NE} {lab : List Nat} (hg : GOk n E) (h : LabI n E lab) {e : NE} (he : e ∈ E) {r x : Nat} (hr : MinR E r) (hx : x < n) (hc : Conn E r x) (hl : lab.getD x 0 = r) : (stepL lab e).getD x 0 = r := by
  have h1 := (stepL_inv hg h he).ge hr hx hc
  have hb := hg.he e he
  rw [stepL_get h.1 (by omega) (by omega)] at h1 ⊢
  split
  · rename_i hx2; rw [if_pos hx2] at h1
    rcases hx2 with rfl | rfl <;> omega
  · exact hl
theorem foldL_keep {n : Nat} {E : List NE} (hg : GOk n E) : ∀ (l : List NE) (lab : List Nat), (∀ e ∈ l, e ∈ E) → LabI n E lab → LabI n E (l.foldl stepL lab) ∧ ∀ r x, MinR E r → x < n → Conn E r x → lab.getD x 0 = r → (l.foldl stepL lab).getD x 0 = r
  | [], lab, _, h => ⟨h, fun _ _ _ _ _ e => e⟩
  | e :: l, lab, hs, h => by
    have he := hs e (by simp)
    obtain ⟨h1, h2⟩ := foldL_keep hg l (stepL lab e) (fun e' he' => hs e' (by simp [he'])) (stepL_inv hg h he)
    exact ⟨h1, fun r x hr hx hc hl => h2 r x hr hx hc (stepL_keep hg h he hr hx hc hl)⟩
theorem foldL_edge {n : Nat} {E : List NE} (hg : GOk n E) {lab : List Nat} (h : LabI n E lab) {e : NE} (he : e ∈ E) {r : Nat} (hr : MinR E r) (hc : Conn E r e.1) (hl : lab.getD e.1 0 = r ∨ lab.getD e.2.1 0 = r) :
    (E.foldl stepL lab).getD e.1 0 = r ∧ (E.foldl stepL lab).getD e.2.1 0 = r := by
  have hb := hg.he e he
  have hc2 : Conn E r e.2.1 := hc.step ⟨e, he, .inl ⟨rfl, rfl⟩⟩
  obtain ⟨pre, post, hE⟩ := List.append_of_mem he
  have hsub : ∀ x ∈ pre, x ∈ E := fun x hx => by rw [hE]; simp [hx]
  have hsub2 : ∀ x ∈ post, x ∈ E := fun x hx => by rw [hE]; simp [hx]
  obtain ⟨k1, k2⟩ := foldL_keep hg pre lab hsub h
  have hfold : E.foldl stepL lab = post.foldl stepL (stepL (pre.foldl stepL lab) e) := by
    conv => lhs; rw [hE]
    rw [List.foldl_append, List.foldl_cons]
  obtain ⟨m1, m2⟩ := foldL_keep hg post _ hsub2 (stepL_inv hg k1 he)
  have hmin : min ((pre.foldl stepL lab).getD e.1 0) ((pre.foldl stepL lab).getD e.2.1 0) = r := by
    have g1 := k1.ge hr (by omega) hc; have g2 := k1.ge hr (by omega) hc2
    rcases hl with hl | hl
    · have := k2 r e.1 hr (by omega) hc hl; omega
    · have := k2 r e.2.1 hr (by omega) hc2 hl; omega
  rw [hfold]
  exact ⟨m2 r e.1 hr (by omega) hc (by rw [stepL_get k1.1 (by omega) (by omega), if_pos (.inl rfl)]; exact hmin), m2 r e.2.1 hr (by omega) hc2 (by rw [stepL_get k1.1 (by omega) (by omega), if_pos (.inr rfl)]; exact hmin)⟩
theorem filter_lt {l : List Nat} {p q : Nat → Bool} (hpq : ∀ x ∈ l, p x = true → q x = true) {v : Nat} (hv : v ∈ l) (hq : q v = true) (hp : p v = false) : (l.filter p).length < (l.filter q).length := by
  induction l with
  | nil => simp at hv
  | cons a l ih =>
    have hle : (l.filter p).length ≤ (l.filter q).length := by
      have hpq' : ∀ x ∈ l, p x = true → q x = true := fun x hx => hpq x (by simp [hx])
      clear ih hv hpq
      induction l with
      | nil => simp
      | cons b l ih2 =>
        have := ih2 (fun x hx => hpq' x (by simp [hx]))
        have hb := hpq' b (by simp)
        simp only [List.filter_cons]
        by_cases h1 : p b = true
        · rw [if_pos h1, if_pos (hb h1)]; simp; exact this
        · rw [if_neg h1]; split <;> simp <;> omega
    rcases List.mem_cons.1 hv with rfl | hv'
    · rw [List.filter_cons_of_pos hq, List.filter_cons_of_neg (by simp [hp])]; simp; omega
    · have := ih (fun x hx => hpq x (by simp [hx])) hv'
      have ha := hpq a (by simp)
      simp only [List.filter_cons]
      by_cases h1 : p a = true
      · rw [if_pos h1, if_pos (ha h1)]; simp; exact this
      · rw [if_neg h1]; split <;> simp <;> omega
def roundL (E : List NE) (lab : List Nat) : List Nat := E.foldl stepL lab
/-- Behind t rounds: a root's label has come to all of its component, or to t + 1 vertices. -/
def Come (n : Nat) (E : List NE) (t : Nat) (lab : List Nat) : Prop := ∀ r, r < n → MinR E r → (∀ x, x < n → Conn E r x → lab.getD x 0 = r) ∨ t + 1 ≤ ((List.range n).filter fun x => decide (lab.getD x 0 = r)).length
theorem conn_lt {n : Nat} {E : List NE} (hg : GOk n E) {r x : Nat} (hr : r < n) (h : Conn E r x) : x < n := by
  cases h with
  | refl => exact hr
  | step _ ha => exact (hg.adj_lt ha).2.1
theorem Come.next {n : Nat} {E : List NE} {t : Nat} {lab : List Nat} (hg : GOk n E) (hI : LabI n E lab) (h : Come n E t lab) : Come n E (t + 1) (roundL E lab) := by
  intro r hrn hr
  obtain ⟨k1, k2⟩ := foldL_keep hg E lab (fun _ h => h) hI
  by_cases hall : ∀ x, x < n → Conn E r x → lab.getD x 0 = r
  · exact .inl fun x hx hc => k2 r x hr hx hc (hall x hx hc)
  refine .inr ?_
  have hcnt := (h r hrn hr).resolve_left hall
  have hr0 : lab.getD r 0 = r := by have := hI.2 r hrn; have := hI.ge hr hrn .refl; omega
  obtain ⟨x, hx0⟩ := Classical.not_forall.1 hall
  obtain ⟨hx, hx2⟩ := Classical.not_imp.1 hx0
  obtain ⟨hc, hne⟩ := Classical.not_imp.1 hx2
  have cross : ∃ v, v < n ∧ lab.getD v 0 ≠ r ∧ (roundL E lab).getD v 0 = r := by
    clear hx2 hall hx0 hx
    induction hc with
    | refl => exact absurd hr0 hne
    | @step y z hcy had ih =>
      by_cases hy : lab.getD y 0 = r
      · refine ⟨z, (hg.adj_lt had).2.1, hne, ?_⟩
        obtain ⟨e, he, ⟨h1, h2⟩ | ⟨h1, h2⟩⟩ := had
        · rw [← h2]; exact (foldL_edge hg hI he hr (by rw [h1]; exact hcy) (.inl (by rw [h1]; exact hy))).2
        · rw [← h1]; exact (foldL_edge hg hI he hr (by rw [h1]; exact hcy.step ⟨e, he, .inr ⟨h1, h2⟩⟩) (.inr (by rw [h2]; exact hy))).1
      · exact ih hy
  obtain ⟨v, hv, hv1, hv2⟩ := cross
  have := filter_lt (l := List.range n) (p := fun x => decide (lab.getD x 0 = r)) (q := fun x => decide ((roundL E lab).getD x 0 = r)) (fun x hx h1 => by
    simp only [decide_eq_true_eq] at h1 ⊢
    have hxn := List.mem_range.1 hx
    exact k2 r x hr hxn (by have := (hI.2 x hxn).2; rw [h1] at this; exact this) h1) (List.mem_range.2 hv) (by simpa using hv2) (by simpa using hv1)
  omega
def LabOk (n : Nat) (E : List NE) (lab : List Nat) : Prop := LabI n E lab ∧ ∀ x y, x < n → Conn E x y → lab.getD x 0 = lab.getD y 0
theorem min_root {n : Nat} {E : List NE} {x : Nat} (hx : x < n) : ∃ r, r < n ∧ MinR E r ∧ Conn E r x := by
  have key : ∀ k, ∀ x, x ≤ k → x < n → ∃ r, r < n ∧ MinR E r ∧ Conn E r x := fun k => by
    induction k with
    | zero => intro x hx hn; exact ⟨x, hn, fun y _ => by omega, .refl⟩
    | succ k ih =>
      intro x hx hn
      by_cases h : MinR E x
      · exact ⟨x, hn, h, .refl⟩
      · obtain ⟨y, hy⟩ := Classical.not_forall.1 h
        obtain ⟨hc, hy⟩ := Classical.not_imp.1 hy
        obtain ⟨r, h1, h2, h3⟩ := ih y (by omega) (by omega)
        exact ⟨r, h1, h2, h3.trans hc.symm⟩
  exact key x x (Nat.le_refl _) hx
theorem Come.done {n : Nat} {E : List NE} {lab : List Nat} (hg : GOk n E) (hI : LabI n E lab) (h : Come n E n lab) : LabOk n E lab := by
  refine ⟨hI, fun x y hx hc => ?_⟩
  obtain ⟨r, hr, hm, hrx⟩ := min_root (E := E) hx
  have hall := (h r hr hm).resolve_right (fun h => by
    have := List.length_filter_le (fun x => decide (lab.getD x 0 = r)) (List.range n); rw [List.length_range] at this; omega)
  rw [hall x hx hrx, hall y (conn_lt hg hx hc) (hrx.trans hc)]
theorem range_getD {n x : Nat} (h : x < n) : (List.range n).getD x 0 = x := by simp [List.getD_eq_getElem?_getD, h]
theorem LabI.start (n : Nat) (E : List NE) : LabI n E (List.range n) := ⟨by simp, fun x hx => by rw [range_getD hx]; exact ⟨Nat.le_refl _, .refl⟩⟩
theorem Come.start (n : Nat) (E : List NE) : Come n E 0 (List.range n) := fun r hr hm => .inr (by
  have : r ∈ (List.range n).filter fun x => decide ((List.range n).getD x 0 = r) := by rw [List.mem_filter]; exact ⟨List.mem_range.2 hr, by rw [range_getD hr]; simp⟩
  have := List.length_pos_of_mem this; omega)
/-! ### The components of labels -/
def cls (n : Nat) (lab : List Nat) (u v : Nat) : List Nat := (List.range v).filter fun x => decide (lab.getD x 0 = u)
def compsL (n : Nat) (lab : List Nat) (u : Nat) : List (List Nat) := ((List.range u).filter fun x => decide (lab.getD x 0 = x)).map fun x => cls n lab x n
theorem cls_succ (n : Nat) (lab : List Nat) (u v : Nat) : cls n lab u (v + 1) = cls n lab u v ++ if lab.getD v 0 = u then [v] else [] := by
  unfold cls; rw [List.range_succ, List.filter_append]; congr 1
  by_cases h : lab.getD v 0 = u
  · rw [if_pos h, List.filter_cons_of_pos (by simp only [decide_eq_true_eq]; exact h)]; rfl
  · rw [if_neg h, List.filter_cons_of_neg (by simp only [decide_eq_true_eq]; exact h)]; rfl
theorem compsL_succ (n : Nat) (lab : List Nat) (u : Nat) : compsL n lab (u + 1) = compsL n lab u ++ if lab.getD u 0 = u then [cls n lab u n] else [] := by
  unfold compsL; rw [List.range_succ, List.filter_append, List.map_append]; congr 1
  by_cases h : lab.getD u 0 = u
  · rw [if_pos h, List.filter_cons_of_pos (by simp only [decide_eq_true_eq]; exact h)]; rfl
  · rw [if_neg h, List.filter_cons_of_neg (by simp only [decide_eq_true_eq]; exact h)]; rfl
theorem cls_start {n : Nat} {E : List NE} {lab : List Nat} (h : LabI n E lab) {u : Nat} (hu : u ≤ n) : cls n lab u u = [] := by
  unfold cls; rw [List.filter_eq_nil_iff]; intro x hx; rw [List.mem_range] at hx
  have := (h.2 x (by omega)).1
  simp only [decide_eq_true_eq]; omega
theorem compsL_ok {n : Nat} {E : List NE} {lab : List Nat} (hg : GOk n E) (h : LabOk n E lab) : Comps n E (compsL n lab n) := by
  have mem : ∀ c ∈ compsL n lab n, ∃ u, u < n ∧ lab.getD u 0 = u ∧ c = cls n lab u n := fun c hc => by
    obtain ⟨u, hu, rfl⟩ := List.mem_map.1 hc
    rw [List.mem_filter, List.mem_range, decide_eq_true_eq] at hu
    exact ⟨u, hu.1, hu.2, rfl⟩
  have mc : ∀ u x, x ∈ cls n lab u n ↔ x < n ∧ lab.getD x 0 = u := fun u x => by unfold cls; rw [List.mem_filter, List.mem_range, decide_eq_true_eq]
  refine ⟨fun c hc => ?_, ?_, fun x hx => ?_, fun c hc x hx => ?_⟩
  · obtain ⟨u, hu, hl, rfl⟩ := mem c hc
    refine ⟨List.pairwise_lt_range.filter _, u, (mc u u).2 ⟨hu, hl⟩, fun x => ?_⟩
    rw [mc]
    constructor
    · rintro ⟨h1, h2⟩; have := (h.1.2 x h1).2; rw [h2] at this; exact this
    · intro hc'; exact ⟨conn_lt hg hu hc', by rw [← h.2 u x hu hc']; exact hl⟩
  · unfold compsL
    rw [List.pairwise_map]
    refine List.Pairwise.filter _ (List.pairwise_lt_range.imp fun {a b} hab x hxa hxb => ?_)
    have := ((mc a x).1 hxa).2; have := ((mc b x).1 hxb).2; omega
  · have hx1 := h.1.2 x hx
    have hlt : lab.getD x 0 < n := by omega
    refine ⟨cls n lab (lab.getD x 0) n, List.mem_map.2 ⟨lab.getD x 0, List.mem_filter.2 ⟨List.mem_range.2 hlt, ?_⟩, rfl⟩, (mc _ x).2 ⟨hx, rfl⟩⟩
    simp only [decide_eq_true_eq]; exact h.2 _ x hlt hx1.2
  · obtain ⟨u, hu, hl, rfl⟩ := mem c hc
    exact ((mc u x).1 hx).1
theorem cls_len (n : Nat) (lab : List Nat) (u v : Nat) : (cls n lab u v).length ≤ v := by have := List.length_filter_le (fun x => decide (lab.getD x 0 = u)) (List.range v); rw [List.length_range] at this; exact this
theorem compsL_len (n : Nat) (lab : List Nat) (u : Nat) : (compsL n lab u).length ≤ u := by unfold compsL; rw [List.length_map]; have := List.length_filter_le (fun x => decide (lab.getD x 0 = x)) (List.range u); rw [List.length_range] at this; exact this
theorem nats_setk (l : List Nat) (k x : Nat) : (nats l).set (0 + k - 0) (.int .i64 ((x : Nat) : Int)) = nats (l.set k x) := by rw [Nat.zero_add, Nat.sub_zero]; simp [nats, List.map_set]
theorem nats_getD {l : List Nat} {k : Nat} (h : k < l.length) : (nats l)[k]? = some (.int .i64 ((l.getD k 0 : Nat) : Int)) := by simp [nats, h, List.getD_eq_getElem?_getD]
def upR (n i : Nat) : List Nat := (List.range n).map fun x => if x < i then x else 0
theorem upR_zero (n : Nat) : upR n 0 = List.replicate n 0 := by
  apply List.ext_getElem?; intro i; simp only [upR, List.getElem?_map, List.getElem?_replicate]
  by_cases h : i < n <;> simp [h]
theorem upR_succ {n i : Nat} (h : i < n) : (upR n i).set i i = upR n (i + 1) := by
  apply List.ext_getElem?; intro j
  rw [List.getElem?_set]
  simp only [upR, List.getElem?_map, List.length_map, List.length_range]
  by_cases hij : i = j
  · subst hij; simp [h]
  · rw [if_neg hij]
    by_cases hj : j < n
    · simp only [List.getElem?_range hj, Option.map_some]; congr 1
      by_cases h1 : j < i
      · rw [if_pos h1, if_pos (by omega)]
      · rw [if_neg h1, if_neg (by omega)]
    · simp [hj]
theorem upR_all (n : Nat) : upR n n = List.range n := by
  apply List.ext_getElem?; intro j
  simp only [upR, List.getElem?_map]
  by_cases hj : j < n <;> simp [hj]
theorem upR_length (n i : Nat) : (upR n i).length = n := by simp [upR]
theorem s47 (n : Nat) (E : List NE) (sv : Value) (hg : GOk n E) (H : Hp) (N : Nat) (hv : RdS U H sv 3 (necs E)) : Spec U 47 #[(.agg #[(.int .i64 ((n : Nat) : Int)), sv])] H N (fun v H' N' => (∃ lab, RdS U H' v 1 (nats lab) ∧ LabOk n E lab) ∧ Sub H H' ∧ N ≤ N') := by
  obtain ⟨p, cap, rfl, hc, hp⟩ := hv.edges U
  refine spa U pf_47 (m := 72) rfl rfl (by simp) fun hBN hlt => ?_
  obtain ⟨J, hJ⟩ := Has.ex (T := argsT #[(.agg #[(.int .i64 ((n : Nat) : Int)), (.slice p E.length cap)])]) (l := [(0, (.agg #[(.int .i64 ((n : Nat) : Int)), (.slice p E.length cap)]))]) ⟨rfl, trivial⟩
  rw [hJ]; clear hJ
  have hn := hg.hn; have hm := hg.hm
  repeat (first|refine nt ?_|refine nq ?_|refine wq U ?_)
  refine wg U ?_
  refine wl_op U rfl rfl (op_box U rfl rfl ?_)
  refine wr U ((ra U).to (v' := (.slice none 0 0)) rfl) rfl rfl ?_
  refine wz U ?_
  repeat (first|refine nt ?_|refine nq ?_)
  refine wc_gen U (fun R => R N = some (.row 24 0 [(.int .i64 ((n : Nat) : Int)), (.slice p E.length cap)] 2) ∧ Sub _ R) ⟨(by first|(rw [hsy]; done) | (rw [hsy]; rfl)), ((Sub.refl _).hset (fresh hlt (by omega)))⟩ ?_
  rintro R ⟨hx_1, hs⟩ hBNR hltR
  have hv := hv.sub U hs
  have hNB : U.B ≤ N := hBN
  repeat (first|refine nt ?_|refine nq ?_|refine wq U ?_)
  refine wg U ?_
  refine wr U ((rfa U fb_24_0 rfl).to (v' := (.pointer (some ⟨N, 0, none⟩))) rfl) rfl rfl ?_
  refine wr U (rl1 U el_3 rfl (v := (.int .i64 ((n : Nat) : Int))) (by rw [rrw U (by omega) hx_1]; rfl)) rfl rfl ?_
  refine wl_op U rfl rfl (op_makeSlice U (m := n) (v := .int .i64 0) sl_26 rfl rfl rfl (by omega) (by omega) ?_)
  refine wr U ((ra U).to (v' := (.slice (some ⟨(N + 1), 0, none⟩) n n)) rfl) rfl rfl ?_
  refine wz U ?_
  repeat (first|refine nt ?_|refine nq ?_)
  refine wc_gen U (fun H' => H' (N + 1) = some (.row 3 0 (nats (upR n 0)) n) ∧ Sub R H') ⟨by rw [upR_zero, ← nats_rep]; exact hsy, (Sub.refl R).hset (fresh hltR (by omega))⟩ ?_
  rintro H1 ⟨hl1, hs1⟩ hBN1 hlt1
  repeat (first|refine nt ?_|refine nq ?_|refine wq U ?_)
  refine wg U ?_
  refine wr U ((ra U).to (v' := (.int .i64 0)) rfl) rfl rfl ?_
  refine wz U ?_
  repeat (first|refine nt ?_|refine nq ?_|refine wq U ?_)
  refine wc_block U ?_
  refine wc_loop U (fun m T H' N' => ∃ (i : Nat), i ≤ n ∧ m = n - i ∧ Has T [(1, (.pointer (some ⟨N, 0, none⟩))), (3, (.slice (some ⟨(N + 1), 0, none⟩) n n)), (4, (.int .i64 ((i : Nat) : Int)))] ∧ H' (N + 1) = some (.row 3 0 (nats (upR n i)) n) ∧ Sub R H' ∧ N + 1 + 1 = N') n ⟨0, Nat.zero_le _, rfl, ⟨rfl, rfl, rfl, trivial⟩, hl1, hs1, rfl⟩ ?_
  clear hl1 hs1
  rintro m T H2 _ ⟨i, hi, rfl, hT, hl2, hs2, rfl⟩
  obtain ⟨J, rfl⟩ := hT.ex
  repeat (first|refine nt ?_|refine nq ?_|refine wq U ?_)
  refine wg U ?_
  refine wr U ((rm U).to (v' := (.int .i64 ((i : Nat) : Int))) rfl) rfl rfl ?_
  refine wr U ((rfa U fb_24_0 rfl).to (v' := (.pointer (some ⟨N, 0, none⟩))) rfl) rfl rfl ?_
  refine wr U (rl1 U el_3 rfl (v := (.int .i64 ((n : Nat) : Int))) (by rw [rrw U (by omega) (hs2 _ _ hx_1)]; rfl)) rfl rfl ?_
  refine wr U (rd_lss U rfl rfl) rfl rfl ?_
  refine wz U ?_
  repeat (first|refine nt ?_|refine nq ?_|refine wq U ?_)
  refine wcd U (t := (decide (((i : Nat) : Int) < ((n : Nat) : Int)))) rfl (fun hck => ?_) fun hck => ?_
  · replace hck := of_decide_eq_true hck
    refine wsk U ?_
    repeat (first|refine nt ?_|refine nq ?_)
    have hi1 : i < n := by omega
    repeat (first|refine nt ?_|refine nq ?_|refine wq U ?_)
    refine wc_block U ?_
    repeat (first|refine nt ?_|refine nq ?_|refine wq U ?_)
    refine wg U ?_
    refine wr U ((rm U).to (v' := (.slice (some ⟨(N + 1), 0, none⟩) n n)) rfl) rfl rfl ?_
    refine wr U ((rm U).to (v' := (.int .i64 ((i : Nat) : Int))) rfl) rfl rfl ?_
    refine wr U ((rm U).to (v' := (.int .i64 ((i : Nat) : Int))) rfl) rfl rfl ?_
    refine wr U (rd_idx1 U (j := i) sl_26 rfl rfl hi1) rfl rfl ?_
    refine wl_op0 U rfl (op_store1 U el_3 rfl rfl rfl rfl hl2 (by omega) (by rw [nats_length, upR_length]; omega) ?_)
    refine wz U ?_
    repeat (first|refine nt ?_|refine nq ?_)
    repeat (first|refine nt ?_|refine nq ?_|refine wq U ?_)
    refine wg U ?_
    refine wr U ((rm U).to (v' := (.int .i64 ((i : Nat) : Int))) rfl) rfl rfl ?_
    refine wr U (rd_add U rfl rfl (by omega) (by omega)) rfl rfl ?_
    refine wr U ((ra U).to (v' := (.int .i64 (((i : Nat) : Int) + 1))) rfl) rfl rfl ?_
    refine wz U ?_
    repeat (first|refine nt ?_|refine nq ?_)
    exact ⟨n - (i + 1), by omega, i + 1, by omega, rfl, ⟨rfl, rfl, rfl, trivial⟩, by rw [← upR_succ hi1, ← nats_setk]; exact hsy, hs2.of (fun c o hc => hsn (by have := (hltR c o hc).2; omega)), rfl⟩
  · replace hck := of_decide_eq_false hck
    refine wc_exit U ?_
    repeat (first|refine xt ?_|refine xps (by decide) ?_)
    refine xbl ?_
    repeat (first|refine nt ?_|refine nq ?_)
    have hin : i = n := by omega
    rw [hin, upR_all] at hl2
    repeat (first|refine nt ?_|refine nq ?_|refine wq U ?_)
    refine wg U ?_
    refine wr U ((ra U).to (v' := (.int .i64 0)) rfl) rfl rfl ?_
    refine wz U ?_
    repeat (first|refine nt ?_|refine nq ?_|refine wq U ?_)
    refine wc_block U ?_
    refine wc_loop U (fun m T H' N' => ∃ (i : Nat) (lab : List Nat), i ≤ n ∧ m = n - i ∧ Has T [(1, (.pointer (some ⟨N, 0, none⟩))), (3, (.slice (some ⟨(N + 1), 0, none⟩) n n)), (5, (.int .i64 ((i : Nat) : Int)))] ∧ H' (N + 1) = some (.row 3 0 (nats lab) n) ∧ LabI n E lab ∧ Come n E i lab ∧ Sub R H' ∧ N + 1 + 1 = N') n ⟨0, _, Nat.zero_le _, rfl, ⟨rfl, rfl, rfl, trivial⟩, hl2, LabI.start n E, Come.start n E, hs2, rfl⟩ ?_
    clear hl2 hs2 hT hin hi hck i
    rintro m T H3 _ ⟨i, lab, hi, rfl, hT, hl3, hI, hC, hs3, rfl⟩
    obtain ⟨J, rfl⟩ := hT.ex
    repeat (first|refine nt ?_|refine nq ?_|refine wq U ?_)
    refine wg U ?_
    refine wr U ((rm U).to (v' := (.int .i64 ((i : Nat) : Int))) rfl) rfl rfl ?_
    refine wr U ((rfa U fb_24_0 rfl).to (v' := (.pointer (some ⟨N, 0, none⟩))) rfl) rfl rfl ?_
    refine wr U (rl1 U el_3 rfl (v := (.int .i64 ((n : Nat) : Int))) (by rw [rrw U (by omega) (hs3 _ _ hx_1)]; rfl)) rfl rfl ?_
    refine wr U (rd_lss U rfl rfl) rfl rfl ?_
    refine wz U ?_
    repeat (first|refine nt ?_|refine nq ?_|refine wq U ?_)
    refine wcd U (t := (decide (((i : Nat) : Int) < ((n : Nat) : Int)))) rfl (fun hck => ?_) fun hck => ?_
    · replace hck := of_decide_eq_true hck
      refine wsk U ?_
      repeat (first|refine nt ?_|refine nq ?_)
      have hi1 : i < n := by omega
      repeat (first|refine nt ?_|refine nq ?_|refine wq U ?_)
      refine wc_block U ?_
      repeat (first|refine nt ?_|refine nq ?_|refine wq U ?_)
      refine wg U ?_
      refine wr U ((ra U).to (v' := (.int .i64 0)) rfl) rfl rfl ?_
      refine wz U ?_
      repeat (first|refine nt ?_|refine nq ?_|refine wq U ?_)
      refine wc_block U ?_
      refine wc_loop U (fun m T H' N' => ∃ (k : Nat) (lb : List Nat), k ≤ E.length ∧ m = E.length - k ∧ Has T [(1, (.pointer (some ⟨N, 0, none⟩))), (3, (.slice (some ⟨(N + 1), 0, none⟩) n n)), (5, (.int .i64 ((i : Nat) : Int))), (6, (.int .i64 ((k : Nat) : Int)))] ∧ H' (N + 1) = some (.row 3 0 (nats lb) n) ∧ lb = (E.take k).foldl stepL lab ∧ Sub R H' ∧ N + 1 + 1 = N') E.length ⟨0, lab, Nat.zero_le _, rfl, ⟨rfl, rfl, rfl, rfl, trivial⟩, hl3, rfl, hs3, rfl⟩ ?_
      clear hl3 hs3
      rintro m T H4 _ ⟨k, lb, hk, rfl, hT, hl4, hlb, hs4, rfl⟩
      obtain ⟨J, rfl⟩ := hT.ex
      have hlI : LabI n E lb := hlb ▸ (foldL_keep hg (E.take k) lab (fun e he => List.mem_of_mem_take he) hI).1
      have hll := hlI.1
      repeat (first|refine nt ?_|refine nq ?_|refine wq U ?_)
      refine wg U ?_
      refine wr U ((rm U).to (v' := (.int .i64 ((k : Nat) : Int))) rfl) rfl rfl ?_
      refine wr U ((rfa U fb_24_1 rfl).to (v' := (.pointer (some ⟨N, 1, none⟩))) rfl) rfl rfl ?_
      refine wr U (rl1 U el_22 rfl (v := (.slice p E.length cap)) (by rw [rrw U (by omega) (hs4 _ _ hx_1)]; rfl)) rfl rfl ?_
      refine wr U ((rd_len' U sl_22 rfl).to (v' := (.int .i64 ((E.length : Nat) : Int))) rfl) rfl rfl ?_
      refine wr U (rd_lss U rfl rfl) rfl rfl ?_
      refine wz U ?_
      repeat (first|refine nt ?_|refine nq ?_|refine wq U ?_)
      refine wcd U (t := (decide (((k : Nat) : Int) < ((E.length : Nat) : Int)))) rfl (fun hck2 => ?_) fun hck2 => ?_
      · replace hck2 := of_decide_eq_true hck2
        refine wsk U ?_
        repeat (first|refine nt ?_|refine nq ?_)
        have hk1 : k < E.length := by omega
        obtain ⟨eb, eo, rfl⟩ := hp (by omega)
        repeat (first|refine nt ?_|refine nq ?_|refine wq U ?_)
        refine wc_block U ?_
        have hv4 := hv.sub U hs4
        have he := hg.at hk1
        have hBl : U.B ≤ N + 1 := by omega
        repeat (first|refine nt ?_|refine nq ?_|refine wq U ?_)
        refine wc_draw U H4 mixed ?_
        refine wh_rd U 0 rfl ((rm U).to (v' := (.slice (some ⟨(N + 1), 0, none⟩) n n)) rfl) (by kernel_rfl) (by kernel_rfl) (by kernel_rfl) rfl rfl (Sub.refl _) ?_
        refine wh_rd U 1 rfl ((rfa U fb_24_1 rfl).to (v' := (.pointer (some ⟨N, 1, none⟩))) rfl) (by kernel_rfl) (by kernel_rfl) (by kernel_rfl) rfl rfl (Sub.refl _) ?_
        refine wh_rd U 2 rfl (rl1 U el_22 rfl (v := (.slice (some ⟨eb, eo, none⟩) E.length cap)) (by rw [rrw U (by omega) (hs4 _ _ hx_1)]; rfl)) (by kernel_rfl) (by kernel_rfl) (by kernel_rfl) rfl rfl (Sub.refl _) ?_
        refine wh_rd U 3 rfl ((rm U).to (v' := (.int .i64 ((k : Nat) : Int))) rfl) (by kernel_rfl) (by kernel_rfl) (by kernel_rfl) rfl rfl (Sub.refl _) ?_
        refine wh_rd U 4 rfl (rd_idxN U (j := k) sl_22 rfl rfl (by omega)) (by kernel_rfl) (by kernel_rfl) (by kernel_rfl) rfl rfl (Sub.refl _) ?_
        refine wh_rd U 5 rfl ((rfa U fb_43_0 rfl).to (v' := (.pointer (some ⟨eb, eo + k * 3 + 0, none⟩))) rfl) (by kernel_rfl) (by kernel_rfl) (by kernel_rfl) rfl rfl (Sub.refl _) ?_
        refine wh_rd U 6 rfl (rl1 U el_3 rfl (v := (.int .i64 ((E[k].1 : Nat) : Int))) (hv4.e0 U hk1)) (by kernel_rfl) (by kernel_rfl) (by kernel_rfl) rfl rfl (Sub.refl _) ?_
        refine wh_rd U 7 rfl (rd_idx1 U (j := E[k].1) sl_26 rfl rfl (by omega)) (by kernel_rfl) (by kernel_rfl) (by kernel_rfl) rfl rfl (Sub.refl _) ?_
        refine wh_rd U 8 rfl (rl1 U el_3 rfl (v := (.int .i64 ((lb.getD E[k].1 0 : Nat) : Int))) (rd_at U hBl hl4 (nats_getD (by omega)))) (by kernel_rfl) (by kernel_rfl) (by kernel_rfl) rfl rfl (Sub.refl _) ?_
        refine wh_rd U 9 rfl ((rm U).to (v' := (.slice (some ⟨(N + 1), 0, none⟩) n n)) rfl) (by kernel_rfl) (by kernel_rfl) (by kernel_rfl) rfl rfl (Sub.refl _) ?_
        refine wh_rd U 10 rfl ((rfa U fb_24_1 rfl).to (v' := (.pointer (some ⟨N, 1, none⟩))) rfl) (by kernel_rfl) (by kernel_rfl) (by kernel_rfl) rfl rfl (Sub.refl _) ?_
        refine wh_rd U 11 rfl (rl1 U el_22 rfl (v := (.slice (some ⟨eb, eo, none⟩) E.length cap)) (by rw [rrw U (by omega) (hs4 _ _ hx_1)]; rfl)) (by kernel_rfl) (by kernel_rfl) (by kernel_rfl) rfl rfl (Sub.refl _) ?_
        refine wh_rd U 12 rfl ((rm U).to (v' := (.int .i64 ((k : Nat) : Int))) rfl) (by kernel_rfl) (by kernel_rfl) (by kernel_rfl) rfl rfl (Sub.refl _) ?_
        refine wh_rd U 13 rfl (rd_idxN U (j := k) sl_22 rfl rfl (by omega)) (by kernel_rfl) (by kernel_rfl) (by kernel_rfl) rfl rfl (Sub.refl _) ?_
        refine wh_rd U 14 rfl ((rfa U fb_43_1 rfl).to (v' := (.pointer (some ⟨eb, eo + k * 3 + 1, none⟩))) rfl) (by kernel_rfl) (by kernel_rfl) (by kernel_rfl) rfl rfl (Sub.refl _) ?_
        refine wh_rd U 15 rfl (rl1 U el_3 rfl (v := (.int .i64 ((E[k].2.1 : Nat) : Int))) (hv4.e1 U hk1)) (by kernel_rfl) (by kernel_rfl) (by kernel_rfl) rfl rfl (Sub.refl _) ?_
        refine wh_rd U 16 rfl (rd_idx1 U (j := E[k].2.1) sl_26 rfl rfl (by omega)) (by kernel_rfl) (by kernel_rfl) (by kernel_rfl) rfl rfl (Sub.refl _) ?_
        refine wh_rd U 17 rfl (rl1 U el_3 rfl (v := (.int .i64 ((lb.getD E[k].2.1 0 : Nat) : Int))) (rd_at U hBl hl4 (nats_getD (by omega)))) (by kernel_rfl) (by kernel_rfl) (by kernel_rfl) rfl rfl (Sub.refl _) ?_
        refine wh_rd U 18 rfl ((rd_min U rfl rfl).to (v' := (.int .i64 ((min (lb.getD E[k].1 0) (lb.getD E[k].2.1 0) : Nat) : Int))) (congrArg (Value.int .i64) (by omega))) (by kernel_rfl) (by kernel_rfl) (by kernel_rfl) rfl rfl (Sub.refl _) ?_
        refine wh_rd U 19 rfl ((ra U).to (v' := (.int .i64 ((min (lb.getD E[k].1 0) (lb.getD E[k].2.1 0) : Nat) : Int))) rfl) (by kernel_rfl) (by kernel_rfl) (by kernel_rfl) rfl rfl (Sub.refl _) ?_
        refine wh_done U (by kernel_rfl) ?_
        repeat (first|refine nt ?_|refine nq ?_|refine wq U ?_)
        refine wg U ?_
        refine wr U ((rm U).to (v' := (.slice (some ⟨(N + 1), 0, none⟩) n n)) rfl) rfl rfl ?_
        refine wr U ((rfa U fb_24_1 rfl).to (v' := (.pointer (some ⟨N, 1, none⟩))) rfl) rfl rfl ?_
        refine wr U (rl1 U el_22 rfl (v := (.slice (some ⟨eb, eo, none⟩) E.length cap)) (by rw [rrw U (by omega) (hs4 _ _ hx_1)]; rfl)) rfl rfl ?_
        refine wr U ((rm U).to (v' := (.int .i64 ((k : Nat) : Int))) rfl) rfl rfl ?_
        refine wr U (rd_idxN U (j := k) sl_22 rfl rfl (by omega)) rfl rfl ?_
        refine wr U ((rfa U fb_43_0 rfl).to (v' := (.pointer (some ⟨eb, eo + k * 3 + 0, none⟩))) rfl) rfl rfl ?_
        refine wr U (rl1 U el_3 rfl (v := (.int .i64 ((E[k].1 : Nat) : Int))) (hv4.e0 U hk1)) rfl rfl ?_
        refine wr U ((rm U).to (v' := (.int .i64 ((min (lb.getD E[k].1 0) (lb.getD E[k].2.1 0) : Nat) : Int))) rfl) rfl rfl ?_
        refine wr U (rd_idx1 U (j := E[k].1) sl_26 rfl rfl (by omega)) rfl rfl ?_
        refine wl_op0 U rfl (op_store1 U el_3 rfl rfl rfl rfl hl4 (by omega) (by rw [nats_length]; omega) ?_)
        refine wz U ?_
        repeat (first|refine nt ?_|refine nq ?_)
        refine wc_gen U (fun H' => H' (N + 1) = some (.row 3 0 (nats (lb.set E[k].1 (min (lb.getD E[k].1 0) (lb.getD E[k].2.1 0)))) n) ∧ Sub R H') ⟨by rw [← nats_setk]; exact hsy, hs4.of (fun c o hc => hsn (by have := (hltR c o hc).2; omega))⟩ ?_
        rintro H5 ⟨hl5, hs5⟩ hBN5 hlt5
        have hv5 := hv.sub U hs5
        repeat (first|refine nt ?_|refine nq ?_|refine wq U ?_)
        refine wg U ?_
        refine wr U ((rm U).to (v' := (.slice (some ⟨(N + 1), 0, none⟩) n n)) rfl) rfl rfl ?_
        refine wr U ((rfa U fb_24_1 rfl).to (v' := (.pointer (some ⟨N, 1, none⟩))) rfl) rfl rfl ?_
        refine wr U (rl1 U el_22 rfl (v := (.slice (some ⟨eb, eo, none⟩) E.length cap)) (by rw [rrw U (by omega) (hs5 _ _ hx_1)]; rfl)) rfl rfl ?_
        refine wr U ((rm U).to (v' := (.int .i64 ((k : Nat) : Int))) rfl) rfl rfl ?_
        refine wr U (rd_idxN U (j := k) sl_22 rfl rfl (by omega)) rfl rfl ?_
        refine wr U ((rfa U fb_43_1 rfl).to (v' := (.pointer (some ⟨eb, eo + k * 3 + 1, none⟩))) rfl) rfl rfl ?_
        refine wr U (rl1 U el_3 rfl (v := (.int .i64 ((E[k].2.1 : Nat) : Int))) (hv5.e1 U hk1)) rfl rfl ?_
        refine wr U ((rm U).to (v' := (.int .i64 ((min (lb.getD E[k].1 0) (lb.getD E[k].2.1 0) : Nat) : Int))) rfl) rfl rfl ?_
        refine wr U (rd_idx1 U (j := E[k].2.1) sl_26 rfl rfl (by omega)) rfl rfl ?_
        refine wl_op0 U rfl (op_store1 U el_3 rfl rfl rfl rfl hl5 (by omega) (by rw [nats_length, List.length_set]; omega) ?_)
        refine wz U ?_
        repeat (first|refine nt ?_|refine nq ?_)
        repeat (first|refine nt ?_|refine nq ?_|refine wq U ?_)
        refine wg U ?_
        refine wr U ((rm U).to (v' := (.int .i64 ((k : Nat) : Int))) rfl) rfl rfl ?_
        refine wr U (rd_add U rfl rfl (by omega) (by omega)) rfl rfl ?_
        refine wr U ((ra U).to (v' := (.int .i64 (((k : Nat) : Int) + 1))) rfl) rfl rfl ?_
        refine wz U ?_
        repeat (first|refine nt ?_|refine nq ?_)
        exact ⟨E.length - (k + 1), by omega, k + 1, stepL lb E[k], by omega, rfl, ⟨rfl, rfl, rfl, rfl, trivial⟩, by unfold stepL; rw [← nats_setk (lb.set E[k].1 (min (lb.getD E[k].1 0) (lb.getD E[k].2.1 0))) E[k].2.1 (min (lb.getD E[k].1 0) (lb.getD E[k].2.1 0))]; exact hsy, by rw [List.take_succ_eq_append_getElem hk1, List.foldl_append, ← hlb]; rfl, hs5.of (fun c o hc => hsn (by have := (hltR c o hc).2; omega)), rfl⟩
      · replace hck2 := of_decide_eq_false hck2
        refine wc_exit U ?_
        repeat (first|refine xt ?_|refine xps (by decide) ?_)
        refine xbl ?_
        repeat (first|refine nt ?_|refine nq ?_)
        rw [List.take_of_length_le (by omega)] at hlb
        repeat (first|refine nt ?_|refine nq ?_|refine wq U ?_)
        refine wg U ?_
        refine wr U ((rm U).to (v' := (.int .i64 ((i : Nat) : Int))) rfl) rfl rfl ?_
        refine wr U (rd_add U rfl rfl (by omega) (by omega)) rfl rfl ?_
        refine wr U ((ra U).to (v' := (.int .i64 (((i : Nat) : Int) + 1))) rfl) rfl rfl ?_
        refine wz U ?_
        repeat (first|refine nt ?_|refine nq ?_)
        exact ⟨n - (i + 1), by omega, i + 1, lb, by omega, rfl, ⟨rfl, rfl, rfl, trivial⟩, hl4, hlI, hlb ▸ hC.next hg hI, hs4, rfl⟩
    · replace hck := of_decide_eq_false hck
      refine wc_exit U ?_
      repeat (first|refine xt ?_|refine xps (by decide) ?_)
      refine xbl ?_
      repeat (first|refine nt ?_|refine nq ?_)
      have hin : i = n := by omega
      rw [hin] at hC
      have hOk := hC.done hg hI
      repeat (first|refine nt ?_|refine nq ?_|refine wq U ?_)
      refine wg U ?_
      refine wr U ((rm U).to (v' := (.slice (some ⟨(N + 1), 0, none⟩) n n)) rfl) rfl rfl ?_
      refine wr U ((ra U).to (v' := (.slice (some ⟨(N + 1), 0, none⟩) n n)) rfl) rfl rfl ?_
      refine wz U ?_
      refine wc_ret U ?_
      repeat (first|refine ret1 ?_|refine ret2 ?_)
      exact end1 U (.inl rfl) rfl (v := (.slice (some ⟨(N + 1), 0, none⟩) n n)) rfl ⟨⟨lab, row_rds U (by omega) hl3 (by rw [nats_length]; exact hI.1) (Nat.le_refl _), hOk⟩, hs.trans hs3, by omega⟩
theorem s24 (n : Nat) (E : List NE) (sv : Value) (hg : GOk n E) (H : Hp) (N : Nat) (hv : RdS U H sv 3 (necs E)) : Spec U 24 #[(.agg #[(.int .i64 ((n : Nat) : Int)), sv])] H N (fun v H' N' => (∃ cs, Rd2 U H' v cs ∧ Comps n E cs) ∧ Sub H H' ∧ N ≤ N') := by
  have hn := hg.hn
  refine spa U pf_24 (m := 44) rfl rfl (by simp) fun hBN hlt => ?_
  obtain ⟨J, hJ⟩ := Has.ex (T := argsT #[(.agg #[(.int .i64 ((n : Nat) : Int)), sv])]) (l := [(0, (.agg #[(.int .i64 ((n : Nat) : Int)), sv]))]) ⟨rfl, trivial⟩
  rw [hJ]; clear hJ
  repeat (first|refine nt ?_|refine nq ?_|refine wq U ?_)
  refine wg U ?_
  refine wl_op U rfl rfl (op_box U rfl rfl ?_)
  refine wr U ((ra U).to (v' := (.slice none 0 0)) rfl) rfl rfl ?_
  refine wz U ?_
  repeat (first|refine nt ?_|refine nq ?_)
  refine wc_gen U (fun R => R N = some (.row 24 0 [(.int .i64 ((n : Nat) : Int)), sv] 2) ∧ Sub _ R) ⟨(by first|(rw [hsy]; done) | (rw [hsy]; rfl)), ((Sub.refl _).hset (fresh hlt (by omega)))⟩ ?_
  rintro R0 ⟨hx_2, hs0⟩ hBNR0 hltR0
  repeat (first|refine nt ?_|refine nq ?_|refine wq U ?_)
  refine wg U ?_
  refine wr U (rd_load2 U el_24 rfl (v0 := (.int .i64 ((n : Nat) : Int))) (v1 := sv)  (by rw [rrw U (by omega) hx_2]; rfl) (by rw [rrw U (by omega) hx_2]; rfl)) rfl rfl ?_
  refine wl_op U rfl rfl (op_call U Tryz.f47 rfl rfl pf_47 (by kernel_rfl) (by kernel_rfl) ((s47 U n E _ hg _ _ (hv.sub U hs0)).mono U ?_))
  rintro lv R M ⟨hq, hsr, hMN⟩
  obtain ⟨lab, hlr, hOk⟩ := hq
  obtain ⟨lp, lcap, rfl, hlc, hlp⟩ := hlr.nums U
  have hI := hOk.1; have hll := hI.1
  refine wr U ((ra U).to (v' := (.slice lp lab.length lcap)) rfl) rfl rfl ?_
  refine wz U ?_
  have hbx := hsr _ _ hx_2
  have hs := hs0.trans hsr
  refine wc_own U fun hBM hltR => ?_
  repeat (first|refine nt ?_|refine nq ?_|refine wq U ?_)
  refine wg U ?_
  refine wr U ((ra U).to (v' := (.slice none 0 0)) rfl) rfl rfl ?_
  refine wz U ?_
  repeat (first|refine nt ?_|refine nq ?_|refine wq U ?_)
  refine wg U ?_
  refine wr U ((ra U).to (v' := (.int .i64 0)) rfl) rfl rfl ?_
  refine wz U ?_
  repeat (first|refine nt ?_|refine nq ?_|refine wq U ?_)
  refine wc_block U ?_
  refine wc_loop U (fun m T H' N' => ∃ (i : Nat) (us : List Value) (ov : Value), i ≤ n ∧ m = n - i ∧ Has T [(1, (.pointer (some ⟨N, 0, none⟩))), (3, (.slice lp lab.length lcap)), (4, ov), (5, (.int .i64 ((i : Nat) : Int)))] ∧ Pcm H' M ov us (compsL n lab i) (.slice none 0 0) [] ∧ Sub R H' ∧ M ≤ N') n ⟨0, [], .slice none 0 0, Nat.zero_le _, rfl, ⟨rfl, rfl, rfl, rfl, trivial⟩, Pcm.start _ _, Sub.refl _, Nat.le_refl _⟩ ?_
  rintro m T H1 N1 ⟨i, us, ov, hi, rfl, hT, hP, hs1, hN1⟩
  obtain ⟨J, rfl⟩ := hT.ex
  refine wc_own U fun hBN1 hlt1 => ?_
  have hNB : U.B ≤ N := hBN
  repeat (first|refine nt ?_|refine nq ?_|refine wq U ?_)
  refine wg U ?_
  refine wr U ((rm U).to (v' := (.int .i64 ((i : Nat) : Int))) rfl) rfl rfl ?_
  refine wr U ((rfa U fb_24_0 rfl).to (v' := (.pointer (some ⟨N, 0, none⟩))) rfl) rfl rfl ?_
  refine wr U (rl1 U el_3 rfl (v := (.int .i64 ((n : Nat) : Int))) (by rw [rrw U (by omega) (hs1 _ _ hbx)]; rfl)) rfl rfl ?_
  refine wr U (rd_lss U rfl rfl) rfl rfl ?_
  refine wz U ?_
  repeat (first|refine nt ?_|refine nq ?_|refine wq U ?_)
  refine wcd U (t := (decide (((i : Nat) : Int) < ((n : Nat) : Int)))) rfl (fun hck => ?_) fun hck => ?_
  · replace hck := of_decide_eq_true hck
    refine wsk U ?_
    repeat (first|refine nt ?_|refine nq ?_)
    have hi1 : i < n := by omega
    obtain ⟨lb, lo, rfl⟩ := hlp (by omega)
    repeat (first|refine nt ?_|refine nq ?_|refine wq U ?_)
    refine wc_block U ?_
    repeat (first|refine nt ?_|refine nq ?_|refine wq U ?_)
    refine wg U ?_
    refine wr U ((rm U).to (v' := (.slice (some ⟨lb, lo, none⟩) lab.length lcap)) rfl) rfl rfl ?_
    refine wr U ((rm U).to (v' := (.int .i64 ((i : Nat) : Int))) rfl) rfl rfl ?_
    refine wr U (rd_idx1 U (j := i) sl_26 rfl rfl (by omega)) rfl rfl ?_
    refine wr U (rl1 U el_3 rfl (v := (.int .i64 ((lab.getD i 0 : Nat) : Int))) ((hlr.sub U hs1).get U (nats_getD (by omega)))) rfl rfl ?_
    refine wr U ((rm U).to (v' := (.int .i64 ((i : Nat) : Int))) rfl) rfl rfl ?_
    refine wr U (rd_neq U rfl rfl) rfl rfl ?_
    refine wz U ?_
    repeat (first|refine nt ?_|refine nq ?_|refine wq U ?_)
    refine wcd U (t := (decide (((lab.getD i 0 : Nat) : Int) ≠ ((i : Nat) : Int)))) rfl (fun hne => ?_) fun hne => ?_
    · replace hne := of_decide_eq_true hne
      refine wc_exit U ?_
      repeat (first|refine xt ?_|refine xps (by decide) ?_)
      refine xbl ?_
      repeat (first|refine nt ?_|refine nq ?_)
      repeat (first|refine nt ?_|refine nq ?_|refine wq U ?_)
      refine wg U ?_
      refine wr U ((rm U).to (v' := (.int .i64 ((i : Nat) : Int))) rfl) rfl rfl ?_
      refine wr U (rd_add U rfl rfl (by omega) (by omega)) rfl rfl ?_
      refine wr U ((ra U).to (v' := (.int .i64 (((i : Nat) : Int) + 1))) rfl) rfl rfl ?_
      refine wz U ?_
      repeat (first|refine nt ?_|refine nq ?_)
      exact ⟨n - (i + 1), by omega, i + 1, us, ov, by omega, rfl, ⟨rfl, rfl, rfl, rfl, trivial⟩, by rw [compsL_succ, if_neg (fun h => hne (by rw [h])), List.append_nil]; exact hP, hs1, hN1⟩
    · replace hne := of_decide_eq_false hne
      refine wsk U ?_
      repeat (first|refine nt ?_|refine nq ?_)
      have heq : lab.getD i 0 = i := by omega
      repeat (first|refine nt ?_|refine nq ?_|refine wq U ?_)
      refine wg U ?_
      refine wr U ((ra U).to (v' := (.slice none 0 0)) rfl) rfl rfl ?_
      refine wz U ?_
      repeat (first|refine nt ?_|refine nq ?_|refine wq U ?_)
      refine wg U ?_
      refine wr U ((rm U).to (v' := (.int .i64 ((i : Nat) : Int))) rfl) rfl rfl ?_
      refine wr U ((ra U).to (v' := (.int .i64 ((i : Nat) : Int))) rfl) rfl rfl ?_
      refine wz U ?_
      repeat (first|refine nt ?_|refine nq ?_|refine wq U ?_)
      refine wc_block U ?_
      refine wc_loop U (fun m T H' N' => ∃ (v : Nat) (fv : Value), v ≤ n ∧ m = n - v ∧ Has T [(1, (.pointer (some ⟨N, 0, none⟩))), (3, (.slice (some ⟨lb, lo, none⟩) lab.length lcap)), (4, ov), (5, (.int .i64 ((i : Nat) : Int))), (6, fv), (7, (.int .i64 ((v : Nat) : Int)))] ∧ Pcm H' M ov us (compsL n lab i) fv (cls n lab i v) ∧ Sub R H' ∧ M ≤ N') (n - i) ⟨i, .slice none 0 0, by omega, rfl, ⟨rfl, rfl, rfl, rfl, rfl, rfl, trivial⟩, by rw [cls_start hI hi]; exact hP, hs1, hN1⟩ ?_
      clear hP hs1 hN1 hBN1 hlt1
      rintro m T H2 N2 ⟨v, fv, hv2, rfl, hT, hP, hs2, hN2⟩
      obtain ⟨J, rfl⟩ := hT.ex
      refine wc_own U fun hBN2 hlt2 => ?_
      have hcl := cls_len n lab i v
      repeat (first|refine nt ?_|refine nq ?_|refine wq U ?_)
      refine wg U ?_
      refine wr U ((rm U).to (v' := (.int .i64 ((v : Nat) : Int))) rfl) rfl rfl ?_
      refine wr U ((rfa U fb_24_0 rfl).to (v' := (.pointer (some ⟨N, 0, none⟩))) rfl) rfl rfl ?_
      refine wr U (rl1 U el_3 rfl (v := (.int .i64 ((n : Nat) : Int))) (by rw [rrw U (by omega) (hs2 _ _ hbx)]; rfl)) rfl rfl ?_
      refine wr U (rd_lss U rfl rfl) rfl rfl ?_
      refine wz U ?_
      repeat (first|refine nt ?_|refine nq ?_|refine wq U ?_)
      refine wcd U (t := (decide (((v : Nat) : Int) < ((n : Nat) : Int)))) rfl (fun hcv => ?_) fun hcv => ?_
      · replace hcv := of_decide_eq_true hcv
        refine wsk U ?_
        repeat (first|refine nt ?_|refine nq ?_)
        have hv1 : v < n := by omega
        repeat (first|refine nt ?_|refine nq ?_|refine wq U ?_)
        refine wc_block U ?_
        repeat (first|refine nt ?_|refine nq ?_|refine wq U ?_)
        refine wg U ?_
        refine wr U ((rm U).to (v' := (.slice (some ⟨lb, lo, none⟩) lab.length lcap)) rfl) rfl rfl ?_
        refine wr U ((rm U).to (v' := (.int .i64 ((v : Nat) : Int))) rfl) rfl rfl ?_
        refine wr U (rd_idx1 U (j := v) sl_26 rfl rfl (by omega)) rfl rfl ?_
        refine wr U (rl1 U el_3 rfl (v := (.int .i64 ((lab.getD v 0 : Nat) : Int))) ((hlr.sub U hs2).get U (nats_getD (by omega)))) rfl rfl ?_
        refine wr U ((rm U).to (v' := (.int .i64 ((i : Nat) : Int))) rfl) rfl rfl ?_
        refine wr U (rd_eql U rfl rfl) rfl rfl ?_
        refine wz U ?_
        repeat (first|refine nt ?_|refine nq ?_|refine wq U ?_)
        refine wcd U (t := (decide (((lab.getD v 0 : Nat) : Int) = ((i : Nat) : Int)))) rfl (fun hvi => ?_) fun hvi => ?_
        · replace hvi := of_decide_eq_true hvi
          have heq2 : lab.getD v 0 = i := by omega
          repeat (first|refine nt ?_|refine nq ?_|refine wq U ?_)
          refine wg U ?_
          refine wr U ((rm U).to (v' := fv) rfl) rfl rfl ?_
          refine wr U ((rm U).to (v' := (.int .i64 ((v : Nat) : Int))) rfl) rfl rfl ?_
          refine wl_op U rfl rfl (op_bs U sl_26 rfl (by decide) (by decide) [(.int .i64 ((v : Nat) : Int))] rfl (by simp [Value.cells]) rfl (cs := [(.int .i64 ((v : Nat) : Int))]) rfl ?_)
          refine wl_op U rfl rfl (op_append1 U (H0 := _) (cs := nats (cls n lab i v)) (ys := [(.int .i64 ((v : Nat) : Int))]) sl_26 rfl (by decide) rfl hP.cur (fun hc => by have := (hP.cur.lt hlt2 hc).2; omega) rfl rfl rfl (by omega) (one1 rfl) (by rw [nats_length]; omega) (by rw [nats_length]; omega) ?_)
          intro wA HA NA hNA hslA hfrA hloA
          refine wr U ((ra U).to (v' := wA) rfl) rfl rfl ?_
          refine wz U ?_
          repeat (first|refine nt ?_|refine nq ?_)
          obtain ⟨cA, hcA1, hcA2, hcA3⟩ := hloA
          have hA : ∀ c, c < N2 → blkOf fv ≠ some c → HA c = H2 c := fun c hc hne => (hfrA c (by omega) hne).trans (hsn (by omega))
          have hPA := hP.pushf U hlt2 (by omega) hA hslA hcA1 (hcA3.imp id (fun h => by omega))
          have hsA : Sub R HA := hs2.of fun c o hc => hA c (by have := (hltR c o hc).2; omega) (fun e => by have := hP.clo c e; have := (hltR c o hc).2; omega)
          repeat (first|refine nt ?_|refine nq ?_|refine wq U ?_)
          refine wg U ?_
          refine wr U ((rm U).to (v' := (.int .i64 ((v : Nat) : Int))) rfl) rfl rfl ?_
          refine wr U (rd_add U rfl rfl (by omega) (by omega)) rfl rfl ?_
          refine wr U ((ra U).to (v' := (.int .i64 (((v : Nat) : Int) + 1))) rfl) rfl rfl ?_
          refine wz U ?_
          repeat (first|refine nt ?_|refine nq ?_)
          exact ⟨n - (v + 1), by omega, v + 1, wA, by omega, rfl, ⟨rfl, rfl, rfl, rfl, rfl, rfl, trivial⟩, by rw [cls_succ, if_pos heq2]; exact hPA, hsA, by omega⟩
        · replace hvi := of_decide_eq_false hvi
          have hne2 : ¬ lab.getD v 0 = i := fun h => hvi (by rw [h])
          refine wsk U ?_
          repeat (first|refine nt ?_|refine nq ?_)
          repeat (first|refine nt ?_|refine nq ?_|refine wq U ?_)
          refine wg U ?_
          refine wr U ((rm U).to (v' := (.int .i64 ((v : Nat) : Int))) rfl) rfl rfl ?_
          refine wr U (rd_add U rfl rfl (by omega) (by omega)) rfl rfl ?_
          refine wr U ((ra U).to (v' := (.int .i64 (((v : Nat) : Int) + 1))) rfl) rfl rfl ?_
          refine wz U ?_
          repeat (first|refine nt ?_|refine nq ?_)
          exact ⟨n - (v + 1), by omega, v + 1, fv, by omega, rfl, ⟨rfl, rfl, rfl, rfl, rfl, rfl, trivial⟩, by rw [cls_succ, if_neg hne2, List.append_nil]; exact hP, hs2, hN2⟩
      · replace hcv := of_decide_eq_false hcv
        refine wc_exit U ?_
        repeat (first|refine xt ?_|refine xps (by decide) ?_)
        refine xbl ?_
        repeat (first|refine nt ?_|refine nq ?_)
        have hvn : v = n := by omega
        rw [hvn] at hP
        obtain ⟨fp, fk, fcap, rfl, hfk, _, _⟩ := hP.cur.form
        have hul := hP.ul; have hcpl := compsL_len n lab i
        repeat (first|refine nt ?_|refine nq ?_|refine wq U ?_)
        refine wg U ?_
        refine wr U ((rm U).to (v' := ov) rfl) rfl rfl ?_
        refine wr U ((rm U).to (v' := (.slice fp fk fcap)) rfl) rfl rfl ?_
        refine wl_op U rfl rfl (op_bs U sl_25 rfl (by decide) (by decide) [(.slice fp fk fcap)] rfl (by simp [Value.cells]) rfl (cs := [(.slice fp fk fcap)]) rfl ?_)
        refine wl_op U rfl rfl (op_append1 U (H0 := _) (cs := us) (ys := [(.slice fp fk fcap)]) sl_25 rfl (by decide) rfl hP.sl (fun hc => by have := (hP.sl.lt hlt2 hc).2; omega) rfl rfl rfl (by omega) (one1 rfl) (by omega) (by omega) ?_)
        intro wO HO NO hNO hslO hfrO hloO
        refine wr U ((ra U).to (v' := wO) rfl) rfl rfl ?_
        refine wz U ?_
        repeat (first|refine nt ?_|refine nq ?_)
        obtain ⟨cO, hcO1, hcO2, hcO3⟩ := hloO
        have hO : ∀ c, c < N2 → blkOf ov ≠ some c → HO c = H2 c := fun c hc hne => (hfrO c (by omega) hne).trans (hsn (by omega))
        have hPO := hP.pusho U hlt2 (by omega) hO hslO hcO1 (hcO3.imp id (fun h => by omega))
        have hsO : Sub R HO := hs2.of fun c o hc => hO c (by have := (hltR c o hc).2; omega) (fun e => by have := hP.lo c e; have := (hltR c o hc).2; omega)
        repeat (first|refine nt ?_|refine nq ?_|refine wq U ?_)
        refine wg U ?_
        refine wr U ((rm U).to (v' := (.int .i64 ((i : Nat) : Int))) rfl) rfl rfl ?_
        refine wr U (rd_add U rfl rfl (by omega) (by omega)) rfl rfl ?_
        refine wr U ((ra U).to (v' := (.int .i64 (((i : Nat) : Int) + 1))) rfl) rfl rfl ?_
        refine wz U ?_
        repeat (first|refine nt ?_|refine nq ?_)
        exact ⟨n - (i + 1), by omega, i + 1, _, wO, by omega, rfl, ⟨rfl, rfl, rfl, rfl, trivial⟩, by rw [compsL_succ, if_pos heq]; exact hPO, hsO, by omega⟩
  · replace hck := of_decide_eq_false hck
    refine wc_exit U ?_
    repeat (first|refine xt ?_|refine xps (by decide) ?_)
    refine xbl ?_
    repeat (first|refine nt ?_|refine nq ?_)
    have hin : i = n := by omega
    rw [hin] at hP
    repeat (first|refine nt ?_|refine nq ?_|refine wq U ?_)
    refine wg U ?_
    refine wr U ((rm U).to (v' := ov) rfl) rfl rfl ?_
    refine wr U ((ra U).to (v' := ov) rfl) rfl rfl ?_
    refine wz U ?_
    refine wc_ret U ?_
    repeat (first|refine ret1 ?_|refine ret2 ?_)
    exact end1 U (.inl rfl) rfl (v := ov) rfl ⟨⟨_, hP.rd_ U (fun b o h => (hlt1 b o h).1), compsL_ok hg hOk⟩, hs.trans hs1, by omega⟩
end Go.Proofs.YtdmodppoellbkaaGreat
namespace Go.Proofs.YtdmodppoellbkaaGreat
open Go Go.RowKit
variable (U : Cx)
def PlaneI (n : Int) (E : List Ed) (rss : List (List Int)) : Prop := ∃ (m : Nat) (E' : List NE) (rs : List (List Nat)), n = ((m : Nat) : Int) ∧ E = E'.map nE ∧ GOk m E' ∧ rss = rs.map castL ∧ PlaneOk m E' rs
theorem fst0_get {f : List ND} (h : 0 < f.length) : fst0 f = f[0].1 := by cases f with | nil => simp at h | cons a l => rfl
theorem ints_snoc (l : List Int) (x : Int) : ints (l ++ [x]) = ints l ++ [.int .i64 x] := by simp [ints]
theorem map_take_succ {cs : List (List Nat)} (g : List Nat → Int) {i : Nat} (h : i < cs.length) : (cs.take (i + 1)).map g = (cs.take i).map g ++ [g cs[i]] := by rw [List.take_succ_eq_append_getElem h, List.map_append]; rfl
theorem s14 (n : Nat) (E : List NE) (sv rv : Value) (rs : List (List Nat)) (hg : GOk n E) (hR : Rot n E rs) (hrl : ∀ r ∈ rs, r.length ≤ 1000) (H : Hp) (N : Nat) (hv : RdS U H sv 3 (necs E)) (hr : Rd2 U H rv rs) : Spec U 14 #[(.agg #[(.int .i64 ((n : Nat) : Int)), sv]), rv] H N (fun v H' N' => (∃ cs, RdS U H' v 1 (ints (cs.map (eulR E (facesL n E rs)))) ∧ Comps n E cs) ∧ Sub H H' ∧ N ≤ N') := by
  obtain ⟨p, cap, rfl, hc, hp⟩ := hv.edges U
  refine spa U pf_14 (m := 81) rfl rfl (by simp) fun hBN hlt => ?_
  obtain ⟨J, hJ⟩ := Has.ex (T := argsT #[(.agg #[(.int .i64 ((n : Nat) : Int)), (.slice p E.length cap)]), rv]) (l := [(0, (.agg #[(.int .i64 ((n : Nat) : Int)), (.slice p E.length cap)])), (1, rv)]) ⟨rfl, rfl, trivial⟩
  rw [hJ]; clear hJ
  have hn := hg.hn; have hm := hg.hm
  repeat (first|refine nt ?_|refine nq ?_|refine wq U ?_)
  refine wg U ?_
  refine wl_op U rfl rfl (op_box U rfl rfl ?_)
  refine wr U ((ra U).to (v' := (.slice none 0 0)) rfl) rfl rfl ?_
  refine wz U ?_
  repeat (first|refine nt ?_|refine nq ?_)
  refine wc_gen U (fun R => R N = some (.row 24 0 [(.int .i64 ((n : Nat) : Int)), (.slice p E.length cap)] 2) ∧ Sub _ R) ⟨(by first|(rw [hsy]; done) | (rw [hsy]; rfl)), ((Sub.refl _).hset (fresh hlt (by omega)))⟩ ?_
  rintro H1 ⟨hx_1, hs1⟩ hBNH1 hltH1
  repeat (first|refine nt ?_|refine nq ?_|refine wq U ?_)
  refine wg U ?_
  refine wr U (rd_load2 U el_24 rfl (v0 := (.int .i64 ((n : Nat) : Int))) (v1 := (.slice p E.length cap))  (by rw [rrw U (by omega) hx_1]; rfl) (by rw [rrw U (by omega) hx_1]; rfl)) rfl rfl ?_
  refine wl_op U rfl rfl (op_call U Tryz.f24 rfl rfl pf_24 (by kernel_rfl) (by kernel_rfl) ((s24 U n E _ hg _ _ (hv.sub U hs1)).mono U ?_))
  rintro cv H2 N2 ⟨⟨cs, hcr, hcs⟩, hs2, hN2⟩
  obtain ⟨cp, ccap, cus, rfl, hcp, hcu, hcus⟩ := hcr.open U
  have hx_2 := hs2 N _ hx_1
  have hs_3 := (Sub.refl _).trans hs2
  refine wr U ((ra U).to (v' := (.slice cp cs.length ccap)) rfl) rfl rfl ?_
  refine wz U ?_
  repeat (first|refine nt ?_|refine nq ?_|refine wq U ?_)
  refine wg U ?_
  refine wr U (rd_load2 U el_24 rfl (v0 := (.int .i64 ((n : Nat) : Int))) (v1 := (.slice p E.length cap))  (by rw [rrw U (by omega) hx_2]; rfl) (by rw [rrw U (by omega) hx_2]; rfl)) rfl rfl ?_
  refine wr U ((rm U).to (v' := rv) rfl) rfl rfl ?_
  refine wl_op U rfl rfl (op_call U Tryz.f25 rfl rfl pf_25 (by kernel_rfl) (by kernel_rfl) ((s25 U n E _ rv rs hg hR hrl _ _ ((hv.sub U hs1).sub U hs2) ((hr.sub U hs1).sub U hs2)).mono U ?_))
  rintro fv R M ⟨hfr, hs3, hN3⟩
  obtain ⟨fs, hfs⟩ : ∃ l, facesL n E rs = l := ⟨_, rfl⟩
  have hfl := facesL_len n E rs
  have hfh : ∀ f ∈ fs, 0 < f.length := fun f hf => by rw [← hfs] at hf; obtain ⟨d, g, h1, h2⟩ := facesO_head _ _ f hf; rw [h1]; simp
  rw [hfs] at hfr hfl ⊢
  obtain ⟨fus, hfu, hful, hfus⟩ := hfr
  obtain ⟨fp, fk, fcap, rfl, hfc, hfk, hfp⟩ := hfu.out U
  obtain rfl : fk = fs.length := by omega
  refine wr U ((ra U).to (v' := (.slice fp fs.length fcap)) rfl) rfl rfl ?_
  refine wz U ?_
  have hs := (hs1.trans hs2).trans hs3
  refine wc_own U fun hBM hltR => ?_
  have hbx : R N = _ := hs3 _ _ (hs2 _ _ hx_1)
  have hv := hv.sub U hs
  have hcu := hcu.sub U hs3
  have hcl := comps_len hcs; have hcul := hcus.1
  have hfl2 : fs.length ≤ 4096 := Nat.le_trans hfl (Nat.mul_le_mul hn hn)
  repeat (first|refine nt ?_|refine nq ?_|refine wq U ?_)
  refine wg U ?_
  refine wr U ((ra U).to (v' := (.slice none 0 0)) rfl) rfl rfl ?_
  refine wz U ?_
  repeat (first|refine nt ?_|refine nq ?_|refine wq U ?_)
  refine wg U ?_
  refine wr U ((ra U).to (v' := (.int .i64 0)) rfl) rfl rfl ?_
  refine wz U ?_
  repeat (first|refine nt ?_|refine nq ?_|refine wq U ?_)
  refine wc_block U ?_
  refine wc_loop U (fun m T H' N' => ∃ (i : Nat) (ov : Value), i ≤ cs.length ∧ m = cs.length - i ∧ Has T [(2, (.pointer (some ⟨N, 0, none⟩))), (5, (.slice cp cs.length ccap)), (6, (.slice fp fs.length fcap)), (7, ov), (8, (.int .i64 ((i : Nat) : Int)))] ∧ IsSl H' ov 3 1 (ints ((cs.take i).map (eulR E fs))) ∧ (∀ c, blkOf ov = some c → M ≤ c) ∧ Sub R H' ∧ M ≤ N') cs.length ⟨0, .slice none 0 0, Nat.zero_le _, rfl, ⟨rfl, rfl, rfl, rfl, rfl, trivial⟩, .inl ⟨rfl, rfl⟩, (fun c h => by cases h), Sub.refl _, Nat.le_refl _⟩ ?_
  rintro m T H5 N5 ⟨i, ov, hi, rfl, hT, hov, hob, hs5, hN5⟩
  obtain ⟨J, rfl⟩ := hT.ex
  refine wc_own U fun hBN5 hlt5 => ?_
  have hNB : U.B ≤ N := hBN
  repeat (first|refine nt ?_|refine nq ?_|refine wq U ?_)
  refine wg U ?_
  refine wr U ((rm U).to (v' := (.int .i64 ((i : Nat) : Int))) rfl) rfl rfl ?_
  refine wr U ((rm U).to (v' := (.slice cp cs.length ccap)) rfl) rfl rfl ?_
  refine wr U ((rd_len' U sl_25 rfl).to (v' := (.int .i64 ((cs.length : Nat) : Int))) rfl) rfl rfl ?_
  refine wr U (rd_lss U rfl rfl) rfl rfl ?_
  refine wz U ?_
  repeat (first|refine nt ?_|refine nq ?_|refine wq U ?_)
  refine wcd U (t := (decide (((i : Nat) : Int) < ((cs.length : Nat) : Int)))) rfl (fun hck => ?_) fun hck => ?_
  · replace hck := of_decide_eq_true hck
    refine wsk U ?_
    repeat (first|refine nt ?_|refine nq ?_)
    have hi1 : i < cs.length := by omega
    obtain ⟨cb, co, rfl⟩ := hcp (by omega)
    repeat (first|refine nt ?_|refine nq ?_|refine wq U ?_)
    refine wc_block U ?_
    obtain ⟨xu, hxu⟩ := get_ex (l := cus) (i := i) (by omega)
    obtain ⟨xs, hxs⟩ : ∃ c, cs[i] = c := ⟨_, rfl⟩
    have hxs2 : cs[i]? = some xs := by rw [List.getElem?_eq_getElem hi1, hxs]
    have hxm : xs ∈ cs := List.mem_of_getElem? hxs2
    have hxlt := hcs.lt xs hxm
    have hxln := nodup_len n xs ((hcs.c xs hxm).1.imp Nat.ne_of_lt) hxlt
    have hxr := ((hcus.2 i xu xs hxu hxs2).sub U hs3).sub U hs5
    have hxr0 : RdS U H5 xu 1 (ints (castL xs)) := by rw [ints_cast]; exact hxr
    obtain ⟨xp, xcap, rfl, hxc, hxp⟩ := hxr.nums U
    have hv5 := hv.sub U hs5; have hcu5 := hcu.sub U hs5; have hfu5 := hfu.sub U hs5
    repeat (first|refine nt ?_|refine nq ?_|refine wq U ?_)
    refine wg U ?_
    refine wr U ((rm U).to (v' := (.slice (some ⟨cb, co, none⟩) cs.length ccap)) rfl) rfl rfl ?_
    refine wr U ((rm U).to (v' := (.int .i64 ((i : Nat) : Int))) rfl) rfl rfl ?_
    refine wr U (rd_idx1 U (j := i) sl_25 rfl rfl hi1) rfl rfl ?_
    refine wr U (rl1 U el_26 rfl (v := (.slice xp xs.length xcap)) (hcu5.get U hxu)) rfl rfl ?_
    refine wr U ((rd_len' U sl_26 rfl).to (v' := (.int .i64 ((xs.length : Nat) : Int))) rfl) rfl rfl ?_
    refine wr U ((ra U).to (v' := (.int .i64 ((xs.length : Nat) : Int))) rfl) rfl rfl ?_
    refine wz U ?_
    repeat (first|refine nt ?_|refine nq ?_|refine wq U ?_)
    refine wg U ?_
    refine wr U ((ra U).to (v' := (.int .i64 0)) rfl) rfl rfl ?_
    refine wz U ?_
    repeat (first|refine nt ?_|refine nq ?_|refine wq U ?_)
    refine wg U ?_
    refine wr U ((ra U).to (v' := (.int .i64 0)) rfl) rfl rfl ?_
    refine wz U ?_
    repeat (first|refine nt ?_|refine nq ?_|refine wq U ?_)
    refine wc_mid U (fun T H' N' => Has T [(2, (.pointer (some ⟨N, 0, none⟩))), (5, (.slice (some ⟨cb, co, none⟩) cs.length ccap)), (6, (.slice fp fs.length fcap)), (7, ov), (8, (.int .i64 ((i : Nat) : Int))), (9, (.int .i64 ((xs.length : Nat) : Int))), (10, (.int .i64 ((edgeN E xs : Nat) : Int)))] ∧ H5 = H' ∧ N5 = N') ?_ ?_
    · skip
      refine wc_block U ?_
      refine wc_loop U (fun m T H' N' => ∃ (q : Nat), q ≤ E.length ∧ m = E.length - q ∧ Has T [(2, (.pointer (some ⟨N, 0, none⟩))), (5, (.slice (some ⟨cb, co, none⟩) cs.length ccap)), (6, (.slice fp fs.length fcap)), (7, ov), (8, (.int .i64 ((i : Nat) : Int))), (9, (.int .i64 ((xs.length : Nat) : Int))), (10, (.int .i64 ((edgeN (E.take q) xs : Nat) : Int))), (11, (.int .i64 ((q : Nat) : Int)))] ∧ H5 = H' ∧ N5 = N') E.length ⟨0, Nat.zero_le _, rfl, ⟨rfl, rfl, rfl, rfl, rfl, rfl, rfl, rfl, trivial⟩, rfl, rfl⟩ ?_
      rintro m T _ _ ⟨q, hq, rfl, hT, rfl, rfl⟩
      obtain ⟨J, rfl⟩ := hT.ex
      repeat (first|refine nt ?_|refine nq ?_|refine wq U ?_)
      refine wg U ?_
      refine wr U ((rm U).to (v' := (.int .i64 ((q : Nat) : Int))) rfl) rfl rfl ?_
      refine wr U ((rfa U fb_24_1 rfl).to (v' := (.pointer (some ⟨N, 1, none⟩))) rfl) rfl rfl ?_
      refine wr U (rl1 U el_22 rfl (v := (.slice p E.length cap)) (by rw [rrw U (by omega) (hs5 _ _ hbx)]; rfl)) rfl rfl ?_
      refine wr U ((rd_len' U sl_22 rfl).to (v' := (.int .i64 ((E.length : Nat) : Int))) rfl) rfl rfl ?_
      refine wr U (rd_lss U rfl rfl) rfl rfl ?_
      refine wz U ?_
      repeat (first|refine nt ?_|refine nq ?_|refine wq U ?_)
      refine wcd U (t := (decide (((q : Nat) : Int) < ((E.length : Nat) : Int)))) rfl (fun hcq => ?_) fun hcq => ?_
      · replace hcq := of_decide_eq_true hcq
        refine wsk U ?_
        repeat (first|refine nt ?_|refine nq ?_)
        have hq1 : q < E.length := by omega
        obtain ⟨eb, eo, rfl⟩ := hp (by omega)
        repeat (first|refine nt ?_|refine nq ?_|refine wq U ?_)
        refine wc_block U ?_
        have hes := edgeN_succ E xs hq1; have hel := edgeN_le E xs q
        repeat (first|refine nt ?_|refine nq ?_|refine wq U ?_)
        refine wc_draw U H5 mixed ?_
        refine wh_rd U 0 rfl ((rm U).to (v' := (.slice (some ⟨cb, co, none⟩) cs.length ccap)) rfl) (by kernel_rfl) (by kernel_rfl) (by kernel_rfl) rfl rfl (Sub.refl _) ?_
        refine wh_rd U 1 rfl ((rm U).to (v' := (.int .i64 ((i : Nat) : Int))) rfl) (by kernel_rfl) (by kernel_rfl) (by kernel_rfl) rfl rfl (Sub.refl _) ?_
        refine wh_rd U 2 rfl (rd_idx1 U (j := i) sl_25 rfl rfl hi1) (by kernel_rfl) (by kernel_rfl) (by kernel_rfl) rfl rfl (Sub.refl _) ?_
        refine wh_rd U 3 rfl (rl1 U el_26 rfl (v := (.slice xp xs.length xcap)) (hcu5.get U hxu)) (by kernel_rfl) (by kernel_rfl) (by kernel_rfl) rfl rfl (Sub.refl _) ?_
        refine wh_rd U 4 rfl ((rfa U fb_24_1 rfl).to (v' := (.pointer (some ⟨N, 1, none⟩))) rfl) (by kernel_rfl) (by kernel_rfl) (by kernel_rfl) rfl rfl (Sub.refl _) ?_
        refine wh_rd U 5 rfl (rl1 U el_22 rfl (v := (.slice (some ⟨eb, eo, none⟩) E.length cap)) (by rw [rrw U (by omega) (hs5 _ _ hbx)]; rfl)) (by kernel_rfl) (by kernel_rfl) (by kernel_rfl) rfl rfl (Sub.refl _) ?_
        refine wh_rd U 6 rfl ((rm U).to (v' := (.int .i64 ((q : Nat) : Int))) rfl) (by kernel_rfl) (by kernel_rfl) (by kernel_rfl) rfl rfl (Sub.refl _) ?_
        refine wh_rd U 7 rfl (rd_idxN U (j := q) sl_22 rfl rfl (by omega)) (by kernel_rfl) (by kernel_rfl) (by kernel_rfl) rfl rfl (Sub.refl _) ?_
        refine wh_rd U 8 rfl ((rfa U fb_43_0 rfl).to (v' := (.pointer (some ⟨eb, eo + q * 3 + 0, none⟩))) rfl) (by kernel_rfl) (by kernel_rfl) (by kernel_rfl) rfl rfl (Sub.refl _) ?_
        refine wh_rd U 9 rfl (rl1 U el_3 rfl (v := (.int .i64 ((E[q].1 : Nat) : Int))) (hv5.e0 U hq1)) (by kernel_rfl) (by kernel_rfl) (by kernel_rfl) rfl rfl (Sub.refl _) ?_
        refine wh_op U 10 (by kernel_rfl) rfl rfl rfl (op_call U Tryz.f16 rfl rfl pf_16 (by kernel_rfl) (by kernel_rfl) ((s16 U (castL xs) ((E[q].1 : Nat) : Int) _ (by simp [castL]; omega) H5 N5 hxr0).mono U ?_))
        rintro _ _ _ ⟨rfl, rfl, rfl⟩
        refine ⟨(Sub.refl _), ?_⟩
        refine wh_done U (by kernel_rfl) ?_
        repeat (first|refine nt ?_|refine nq ?_|refine wq U ?_)
        refine wcd U (t := (decide (((E[q].1 : Nat) : Int) ∈ castL xs))) rfl (fun hmem => ?_) fun hmem => ?_
        · replace hmem := of_decide_eq_true hmem
          rw [if_pos (mem_castL.1 hmem)] at hes
          repeat (first|refine nt ?_|refine nq ?_|refine wq U ?_)
          refine wg U ?_
          refine wr U ((rm U).to (v' := (.int .i64 ((edgeN (E.take q) xs : Nat) : Int))) rfl) rfl rfl ?_
          refine wr U (rd_add U rfl rfl (by omega) (by omega)) rfl rfl ?_
          refine wr U ((ra U).to (v' := (.int .i64 (((edgeN (E.take q) xs : Nat) : Int) + 1))) rfl) rfl rfl ?_
          refine wz U ?_
          repeat (first|refine nt ?_|refine nq ?_)
          repeat (first|refine nt ?_|refine nq ?_|refine wq U ?_)
          refine wg U ?_
          refine wr U ((rm U).to (v' := (.int .i64 ((q : Nat) : Int))) rfl) rfl rfl ?_
          refine wr U (rd_add U rfl rfl (by omega) (by omega)) rfl rfl ?_
          refine wr U ((ra U).to (v' := (.int .i64 (((q : Nat) : Int) + 1))) rfl) rfl rfl ?_
          refine wz U ?_
          repeat (first|refine nt ?_|refine nq ?_)
          exact ⟨E.length - (q + 1), by omega, q + 1, by omega, rfl, ⟨rfl, rfl, rfl, rfl, rfl, rfl, congrArg (Value.int .i64) (by omega), rfl, trivial⟩, rfl, rfl⟩
        · replace hmem := of_decide_eq_false hmem
          rw [if_neg (fun h => hmem (mem_castL.2 h))] at hes
          refine wsk U ?_
          repeat (first|refine nt ?_|refine nq ?_)
          repeat (first|refine nt ?_|refine nq ?_|refine wq U ?_)
          refine wg U ?_
          refine wr U ((rm U).to (v' := (.int .i64 ((q : Nat) : Int))) rfl) rfl rfl ?_
          refine wr U (rd_add U rfl rfl (by omega) (by omega)) rfl rfl ?_
          refine wr U ((ra U).to (v' := (.int .i64 (((q : Nat) : Int) + 1))) rfl) rfl rfl ?_
          refine wz U ?_
          repeat (first|refine nt ?_|refine nq ?_)
          exact ⟨E.length - (q + 1), by omega, q + 1, by omega, rfl, ⟨rfl, rfl, rfl, rfl, rfl, rfl, congrArg (Value.int .i64) (by omega), rfl, trivial⟩, rfl, rfl⟩
      · replace hcq := of_decide_eq_false hcq
        refine wc_exit U ?_
        repeat (first|refine xt ?_|refine xps (by decide) ?_)
        refine xbl ?_
        repeat (first|refine nt ?_|refine nq ?_)
        rw [List.take_of_length_le (by omega)]
        exact ⟨rfl, ⟨rfl, rfl, rfl, rfl, rfl, rfl, rfl, trivial⟩, rfl, rfl⟩
    rintro T _ _ ⟨hT, rfl, rfl⟩
    obtain ⟨J, rfl⟩ := hT.ex
    have hel : edgeN E xs ≤ E.length := by have := edgeN_le E xs E.length; rw [List.take_length] at this; exact this
    repeat (first|refine nt ?_|refine nq ?_|refine wq U ?_)
    refine wg U ?_
    refine wr U ((rm U).to (v' := (.int .i64 ((xs.length : Nat) : Int))) rfl) rfl rfl ?_
    refine wr U ((rm U).to (v' := (.int .i64 ((edgeN E xs : Nat) : Int))) rfl) rfl rfl ?_
    refine wr U (rd_sub' U rfl rfl (by omega) (by omega)) rfl rfl ?_
    refine wr U ((ra U).to (v' := (.int .i64 (((xs.length : Nat) : Int) - ((edgeN E xs : Nat) : Int)))) rfl) rfl rfl ?_
    refine wz U ?_
    repeat (first|refine nt ?_|refine nq ?_)
    repeat (first|refine nt ?_|refine nq ?_|refine wq U ?_)
    refine wg U ?_
    refine wr U ((ra U).to (v' := (.int .i64 0)) rfl) rfl rfl ?_
    refine wz U ?_
    repeat (first|refine nt ?_|refine nq ?_|refine wq U ?_)
    refine wc_mid U (fun T H' N' => Has T [(7, ov), (2, (.pointer (some ⟨N, 0, none⟩))), (5, (.slice (some ⟨cb, co, none⟩) cs.length ccap)), (6, (.slice fp fs.length fcap)), (8, (.int .i64 ((i : Nat) : Int))), (9, (.int .i64 (((xs.length : Nat) : Int) - ((edgeN E xs : Nat) : Int) + ((faceN fs xs : Nat) : Int)))), (10, (.int .i64 ((edgeN E xs : Nat) : Int)))] ∧ H5 = H' ∧ N5 = N') ?_ ?_
    · skip
      refine wc_block U ?_
      refine wc_loop U (fun m T H' N' => ∃ (q : Nat), q ≤ fs.length ∧ m = fs.length - q ∧ Has T [(2, (.pointer (some ⟨N, 0, none⟩))), (5, (.slice (some ⟨cb, co, none⟩) cs.length ccap)), (6, (.slice fp fs.length fcap)), (7, ov), (8, (.int .i64 ((i : Nat) : Int))), (9, (.int .i64 (((xs.length : Nat) : Int) - ((edgeN E xs : Nat) : Int) + ((faceN (fs.take q) xs : Nat) : Int)))), (10, (.int .i64 ((edgeN E xs : Nat) : Int))), (12, (.int .i64 ((q : Nat) : Int)))] ∧ H5 = H' ∧ N5 = N') fs.length ⟨0, Nat.zero_le _, rfl, ⟨rfl, rfl, rfl, rfl, rfl, congrArg (Value.int .i64) (by simp [faceN]), rfl, rfl, trivial⟩, rfl, rfl⟩ ?_
      rintro m T _ _ ⟨q, hq, rfl, hT, rfl, rfl⟩
      obtain ⟨J, rfl⟩ := hT.ex
      repeat (first|refine nt ?_|refine nq ?_|refine wq U ?_)
      refine wg U ?_
      refine wr U ((rm U).to (v' := (.int .i64 ((q : Nat) : Int))) rfl) rfl rfl ?_
      refine wr U ((rm U).to (v' := (.slice fp fs.length fcap)) rfl) rfl rfl ?_
      refine wr U ((rd_len' U sl_53 rfl).to (v' := (.int .i64 ((fs.length : Nat) : Int))) rfl) rfl rfl ?_
      refine wr U (rd_lss U rfl rfl) rfl rfl ?_
      refine wz U ?_
      repeat (first|refine nt ?_|refine nq ?_|refine wq U ?_)
      refine wcd U (t := (decide (((q : Nat) : Int) < ((fs.length : Nat) : Int)))) rfl (fun hcq => ?_) fun hcq => ?_
      · replace hcq := of_decide_eq_true hcq
        refine wsk U ?_
        repeat (first|refine nt ?_|refine nq ?_)
        have hq1 : q < fs.length := by omega
        obtain ⟨fb, fo, rfl⟩ := hfp (by omega)
        repeat (first|refine nt ?_|refine nq ?_|refine wq U ?_)
        refine wc_block U ?_
        have hes := faceN_succ fs xs hq1; have hfll := faceN_le fs xs q
        obtain ⟨gu, hgu⟩ := get_ex (l := fus) (i := q) (by omega)
        obtain ⟨g, hgq⟩ : ∃ g, fs[q] = g := ⟨_, rfl⟩
        have hg2 : fs[q]? = some g := by rw [List.getElem?_eq_getElem hq1, hgq]
        have hg0 := hfh g (List.mem_of_getElem? hg2)
        have hgr := (hfus q gu g hgu hg2).sub U hs5
        rw [hgq, fst0_get hg0] at hes
        obtain ⟨gp, gk, gcap, rfl, hgc, hgk, hgp⟩ := hgr.out U
        rw [dcs_length] at hgk
        obtain rfl : g.length = gk := by omega
        obtain ⟨gb, go, rfl⟩ := hgp hg0
        repeat (first|refine nt ?_|refine nq ?_|refine wq U ?_)
        refine wc_draw U H5 mixed ?_
        refine wh_rd U 0 rfl ((rm U).to (v' := (.slice (some ⟨cb, co, none⟩) cs.length ccap)) rfl) (by kernel_rfl) (by kernel_rfl) (by kernel_rfl) rfl rfl (Sub.refl _) ?_
        refine wh_rd U 1 rfl ((rm U).to (v' := (.int .i64 ((i : Nat) : Int))) rfl) (by kernel_rfl) (by kernel_rfl) (by kernel_rfl) rfl rfl (Sub.refl _) ?_
        refine wh_rd U 2 rfl (rd_idx1 U (j := i) sl_25 rfl rfl hi1) (by kernel_rfl) (by kernel_rfl) (by kernel_rfl) rfl rfl (Sub.refl _) ?_
        refine wh_rd U 3 rfl (rl1 U el_26 rfl (v := (.slice xp xs.length xcap)) (hcu5.get U hxu)) (by kernel_rfl) (by kernel_rfl) (by kernel_rfl) rfl rfl (Sub.refl _) ?_
        refine wh_rd U 4 rfl ((rm U).to (v' := (.slice (some ⟨fb, fo, none⟩) fs.length fcap)) rfl) (by kernel_rfl) (by kernel_rfl) (by kernel_rfl) rfl rfl (Sub.refl _) ?_
        refine wh_rd U 5 rfl ((rm U).to (v' := (.int .i64 ((q : Nat) : Int))) rfl) (by kernel_rfl) (by kernel_rfl) (by kernel_rfl) rfl rfl (Sub.refl _) ?_
        refine wh_rd U 6 rfl (rd_idx1 U (j := q) sl_53 rfl rfl hq1) (by kernel_rfl) (by kernel_rfl) (by kernel_rfl) rfl rfl (Sub.refl _) ?_
        refine wh_rd U 7 rfl (rl1 U el_57 rfl (v := (.slice (some ⟨gb, go, none⟩) g.length gcap)) (hfu5.get U hgu)) (by kernel_rfl) (by kernel_rfl) (by kernel_rfl) rfl rfl (Sub.refl _) ?_
        refine wh_rd U 8 rfl (rd_idxN U (j := 0) sl_57 rfl rfl hg0) (by kernel_rfl) (by kernel_rfl) (by kernel_rfl) rfl rfl (Sub.refl _) ?_
        refine wh_rd U 9 rfl ((rfa U fb_56_0 rfl).to (v' := (.pointer (some ⟨gb, go + 0 * 2 + 0, none⟩))) rfl) (by kernel_rfl) (by kernel_rfl) (by kernel_rfl) rfl rfl (Sub.refl _) ?_
        refine wh_rd U 10 rfl (rl1 U el_3 rfl (v := (.int .i64 ((g[0].1 : Nat) : Int))) (hgr.get U (dcs_get g hg0).1)) (by kernel_rfl) (by kernel_rfl) (by kernel_rfl) rfl rfl (Sub.refl _) ?_
        refine wh_op U 11 (by kernel_rfl) rfl rfl rfl (op_call U Tryz.f16 rfl rfl pf_16 (by kernel_rfl) (by kernel_rfl) ((s16 U (castL xs) ((g[0].1 : Nat) : Int) _ (by simp [castL]; omega) H5 N5 hxr0).mono U ?_))
        rintro _ _ _ ⟨rfl, rfl, rfl⟩
        refine ⟨(Sub.refl _), ?_⟩
        refine wh_done U (by kernel_rfl) ?_
        repeat (first|refine nt ?_|refine nq ?_|refine wq U ?_)
        refine wcd U (t := (decide (((g[0].1 : Nat) : Int) ∈ castL xs))) rfl (fun hmem => ?_) fun hmem => ?_
        · replace hmem := of_decide_eq_true hmem
          rw [if_pos (mem_castL.1 hmem)] at hes
          repeat (first|refine nt ?_|refine nq ?_|refine wq U ?_)
          refine wg U ?_
          refine wr U ((rm U).to (v' := (.int .i64 (((xs.length : Nat) : Int) - ((edgeN E xs : Nat) : Int) + ((faceN (fs.take q) xs : Nat) : Int)))) rfl) rfl rfl ?_
          refine wr U (rd_add U rfl rfl (by omega) (by omega)) rfl rfl ?_
          refine wr U ((ra U).to (v' := (.int .i64 ((((xs.length : Nat) : Int) - ((edgeN E xs : Nat) : Int) + ((faceN (fs.take q) xs : Nat) : Int)) + 1))) rfl) rfl rfl ?_
          refine wz U ?_
          repeat (first|refine nt ?_|refine nq ?_)
          repeat (first|refine nt ?_|refine nq ?_|refine wq U ?_)
          refine wg U ?_
          refine wr U ((rm U).to (v' := (.int .i64 ((q : Nat) : Int))) rfl) rfl rfl ?_
          refine wr U (rd_add U rfl rfl (by omega) (by omega)) rfl rfl ?_
          refine wr U ((ra U).to (v' := (.int .i64 (((q : Nat) : Int) + 1))) rfl) rfl rfl ?_
          refine wz U ?_
          repeat (first|refine nt ?_|refine nq ?_)
          exact ⟨fs.length - (q + 1), by omega, q + 1, by omega, rfl, ⟨rfl, rfl, rfl, rfl, rfl, congrArg (Value.int .i64) (by omega), rfl, rfl, trivial⟩, rfl, rfl⟩
        · replace hmem := of_decide_eq_false hmem
          rw [if_neg (fun h => hmem (mem_castL.2 h))] at hes
          refine wsk U ?_
          repeat (first|refine nt ?_|refine nq ?_)
          repeat (first|refine nt ?_|refine nq ?_|refine wq U ?_)
          refine wg U ?_
          refine wr U ((rm U).to (v' := (.int .i64 ((q : Nat) : Int))) rfl) rfl rfl ?_
          refine wr U (rd_add U rfl rfl (by omega) (by omega)) rfl rfl ?_
          refine wr U ((ra U).to (v' := (.int .i64 (((q : Nat) : Int) + 1))) rfl) rfl rfl ?_
          refine wz U ?_
          repeat (first|refine nt ?_|refine nq ?_)
          exact ⟨fs.length - (q + 1), by omega, q + 1, by omega, rfl, ⟨rfl, rfl, rfl, rfl, rfl, congrArg (Value.int .i64) (by omega), rfl, rfl, trivial⟩, rfl, rfl⟩
      · replace hcq := of_decide_eq_false hcq
        refine wc_exit U ?_
        repeat (first|refine xt ?_|refine xps (by decide) ?_)
        refine xbl ?_
        repeat (first|refine nt ?_|refine nq ?_)
        rw [List.take_of_length_le (by omega)]
        exact ⟨rfl, ⟨rfl, rfl, rfl, rfl, rfl, rfl, rfl, trivial⟩, rfl, rfl⟩
    rintro T _ _ ⟨hT, rfl, rfl⟩
    obtain ⟨J, rfl⟩ := hT.ex
    have hfll : faceN fs xs ≤ fs.length := by have := faceN_le fs xs fs.length; rw [List.take_length] at this; exact this
    have hml : ((cs.take i).map (eulR E fs)).length ≤ 64 := by rw [List.length_map, List.length_take]; omega
    repeat (first|refine nt ?_|refine nq ?_|refine wq U ?_)
    refine wg U ?_
    refine wr U ((rm U).to (v' := (.int .i64 ((edgeN E xs : Nat) : Int))) rfl) rfl rfl ?_
    refine wr U (rd_eql U rfl rfl) rfl rfl ?_
    refine wz U ?_
    repeat (first|refine nt ?_|refine nq ?_|refine wq U ?_)
    refine wcd U (t := (decide (((edgeN E xs : Nat) : Int) = 0))) rfl (fun hz => ?_) fun hz => ?_
    · replace hz := of_decide_eq_true hz
      repeat (first|refine nt ?_|refine nq ?_|refine wq U ?_)
      refine wg U ?_
      refine wr U ((rm U).to (v' := (.int .i64 (((xs.length : Nat) : Int) - ((edgeN E xs : Nat) : Int) + ((faceN fs xs : Nat) : Int)))) rfl) rfl rfl ?_
      refine wr U (rd_add U rfl rfl (by omega) (by omega)) rfl rfl ?_
      refine wr U ((ra U).to (v' := (.int .i64 ((((xs.length : Nat) : Int) - ((edgeN E xs : Nat) : Int) + ((faceN fs xs : Nat) : Int)) + 1))) rfl) rfl rfl ?_
      refine wz U ?_
      repeat (first|refine nt ?_|refine nq ?_)
      repeat (first|refine nt ?_|refine nq ?_|refine wq U ?_)
      refine wg U ?_
      have hval : ((xs.length : Nat) : Int) - ((edgeN E xs : Nat) : Int) + ((faceN fs xs : Nat) : Int) + 1 = eulR E fs xs := by unfold eulR; rw [if_pos (by omega)]
      refine wr U ((rm U).to (v' := ov) rfl) rfl rfl ?_
      refine wr U ((rm U).to (v' := (.int .i64 (eulR E fs xs))) (congrArg (Value.int .i64) hval)) rfl rfl ?_
      refine wl_op U rfl rfl (op_bs U sl_26 rfl (by decide) (by decide) [(.int .i64 (eulR E fs xs))] rfl (by simp [Value.cells]) rfl (cs := [(.int .i64 (eulR E fs xs))]) rfl ?_)
      refine wl_op U rfl rfl (op_append1 U (H0 := _) (cs := ints ((cs.take i).map (eulR E fs))) (ys := [(.int .i64 (eulR E fs xs))]) sl_26 rfl (by decide) rfl hov (fun hc => by have := (hov.lt hlt5 hc).2; omega) rfl rfl rfl (by omega) (one1 rfl) (by rw [ints_length]; omega) (by rw [ints_length]; omega) ?_)
      intro wA HA NA hNA hslA hfrA hloA
      refine wr U ((ra U).to (v' := wA) rfl) rfl rfl ?_
      refine wz U ?_
      repeat (first|refine nt ?_|refine nq ?_)
      obtain ⟨cA, hcA1, hcA2, hcA3⟩ := hloA
      have hA : ∀ c, c < N5 → blkOf ov ≠ some c → HA c = H5 c := fun c hc hne => (hfrA c (by omega) hne).trans (hsn (by omega))
      repeat (first|refine nt ?_|refine nq ?_|refine wq U ?_)
      refine wg U ?_
      refine wr U ((rm U).to (v' := (.int .i64 ((i : Nat) : Int))) rfl) rfl rfl ?_
      refine wr U (rd_add U rfl rfl (by omega) (by omega)) rfl rfl ?_
      refine wr U ((ra U).to (v' := (.int .i64 (((i : Nat) : Int) + 1))) rfl) rfl rfl ?_
      refine wz U ?_
      repeat (first|refine nt ?_|refine nq ?_)
      exact ⟨cs.length - (i + 1), by omega, i + 1, wA, by omega, rfl, ⟨rfl, rfl, rfl, rfl, rfl, trivial⟩, by rw [map_take_succ _ hi1, ints_snoc, hxs]; exact hslA, (fun c hc => by rw [hcA1] at hc; cases hc; rcases hcA3 with h | h; exact hob _ h; omega), hs5.of (fun c o hc => hA c (by have := (hltR c o hc).2; omega) (fun e => by have := hob c e; have := (hltR c o hc).2; omega)), by omega⟩
    · replace hz := of_decide_eq_false hz
      refine wsk U ?_
      repeat (first|refine nt ?_|refine nq ?_)
      repeat (first|refine nt ?_|refine nq ?_|refine wq U ?_)
      refine wg U ?_
      have hval : ((xs.length : Nat) : Int) - ((edgeN E xs : Nat) : Int) + ((faceN fs xs : Nat) : Int) = eulR E fs xs := by unfold eulR; rw [if_neg (by omega)]; omega
      refine wr U ((rm U).to (v' := ov) rfl) rfl rfl ?_
      refine wr U ((rm U).to (v' := (.int .i64 (eulR E fs xs))) (congrArg (Value.int .i64) hval)) rfl rfl ?_
      refine wl_op U rfl rfl (op_bs U sl_26 rfl (by decide) (by decide) [(.int .i64 (eulR E fs xs))] rfl (by simp [Value.cells]) rfl (cs := [(.int .i64 (eulR E fs xs))]) rfl ?_)
      refine wl_op U rfl rfl (op_append1 U (H0 := _) (cs := ints ((cs.take i).map (eulR E fs))) (ys := [(.int .i64 (eulR E fs xs))]) sl_26 rfl (by decide) rfl hov (fun hc => by have := (hov.lt hlt5 hc).2; omega) rfl rfl rfl (by omega) (one1 rfl) (by rw [ints_length]; omega) (by rw [ints_length]; omega) ?_)
      intro wA HA NA hNA hslA hfrA hloA
      refine wr U ((ra U).to (v' := wA) rfl) rfl rfl ?_
      refine wz U ?_
      repeat (first|refine nt ?_|refine nq ?_)
      obtain ⟨cA, hcA1, hcA2, hcA3⟩ := hloA
      have hA : ∀ c, c < N5 → blkOf ov ≠ some c → HA c = H5 c := fun c hc hne => (hfrA c (by omega) hne).trans (hsn (by omega))
      repeat (first|refine nt ?_|refine nq ?_|refine wq U ?_)
      refine wg U ?_
      refine wr U ((rm U).to (v' := (.int .i64 ((i : Nat) : Int))) rfl) rfl rfl ?_
      refine wr U (rd_add U rfl rfl (by omega) (by omega)) rfl rfl ?_
      refine wr U ((ra U).to (v' := (.int .i64 (((i : Nat) : Int) + 1))) rfl) rfl rfl ?_
      refine wz U ?_
      repeat (first|refine nt ?_|refine nq ?_)
      exact ⟨cs.length - (i + 1), by omega, i + 1, wA, by omega, rfl, ⟨rfl, rfl, rfl, rfl, rfl, trivial⟩, by rw [map_take_succ _ hi1, ints_snoc, hxs]; exact hslA, (fun c hc => by rw [hcA1] at hc; cases hc; rcases hcA3 with h | h; exact hob _ h; omega), hs5.of (fun c o hc => hA c (by have := (hltR c o hc).2; omega) (fun e => by have := hob c e; have := (hltR c o hc).2; omega)), by omega⟩
  · replace hck := of_decide_eq_false hck
    refine wc_exit U ?_
    repeat (first|refine xt ?_|refine xps (by decide) ?_)
    refine xbl ?_
    repeat (first|refine nt ?_|refine nq ?_)
    rw [List.take_of_length_le (by omega)] at hov
    repeat (first|refine nt ?_|refine nq ?_|refine wq U ?_)
    refine wg U ?_
    refine wr U ((rm U).to (v' := ov) rfl) rfl rfl ?_
    refine wr U ((ra U).to (v' := ov) rfl) rfl rfl ?_
    refine wz U ?_
    refine wc_ret U ?_
    repeat (first|refine ret1 ?_|refine ret2 ?_)
    exact end1 U (.inl rfl) rfl (v := ov) rfl ⟨⟨cs, hov.rds U (fun b o h => (hlt5 b o h).1), hcs⟩, hs.trans hs5, by omega⟩
theorem s6 (n : Int) (E : List Ed) (sv rv : Value) (rss : List (List Int)) (hn : n ≤ 64) (hm : E.length ≤ 1000) (hrl : ∀ xs ∈ rss, xs.length ≤ 1000) (H : Hp) (N : Nat) (hv : RdS U H sv 3 (ecs E)) (hr : Rd2I U H rv rss) : Spec U 6 #[(.agg #[(.int .i64 n), sv]), rv] H N (fun v H' N' => (∃ k : Int, v = .int .i64 k ∧ (k = 0 → PlaneI n E rss)) ∧ Sub H H' ∧ N ≤ N') := by
  refine spa U pf_6 (m := 28) rfl rfl (by simp) fun hBN hlt => ?_
  obtain ⟨J, hJ⟩ := Has.ex (T := argsT #[(.agg #[(.int .i64 n), sv]), rv]) (l := [(0, (.agg #[(.int .i64 n), sv])), (1, rv)]) ⟨rfl, rfl, trivial⟩
  rw [hJ]; clear hJ
  repeat (first|refine nt ?_|refine nq ?_|refine wq U ?_)
  refine wg U ?_
  refine wl_op U rfl rfl (op_box U rfl rfl ?_)
  refine wr U ((ra U).to (v' := (.int .i64 0)) rfl) rfl rfl ?_
  refine wz U ?_
  repeat (first|refine nt ?_|refine nq ?_)
  refine wc_gen U (fun R => R N = some (.row 24 0 [(.int .i64 n), sv] 2) ∧ Sub _ R) ⟨(by first|(rw [hsy]; done) | (rw [hsy]; rfl)), ((Sub.refl _).hset (fresh hlt (by omega)))⟩ ?_
  rintro H1 ⟨hx_4, hs1⟩ hBNH1 hltH1
  repeat (first|refine nt ?_|refine nq ?_|refine wq U ?_)
  refine wg U ?_
  refine wr U (rd_load2 U el_24 rfl (v0 := (.int .i64 n)) (v1 := sv)  (by rw [rrw U (by omega) hx_4]; rfl) (by rw [rrw U (by omega) hx_4]; rfl)) rfl rfl ?_
  refine wr U ((rm U).to (v' := rv) rfl) rfl rfl ?_
  refine wl_op U rfl rfl (op_call U Tryz.f13 rfl rfl pf_13 (by kernel_rfl) (by kernel_rfl) ((s13 U n E _ rv rss hn hm hrl _ _ (hv.sub U hs1) (hr.sub U hs1)).mono U ?_))
  rintro _ H2 N2 ⟨⟨k0, rfl, hk0⟩, hs2, hN2⟩
  have hx_5 := hs2 N _ hx_4
  have hs_6 := (Sub.refl _).trans hs2
  refine wr U ((ra U).to (v' := (.int .i64 k0)) rfl) rfl rfl ?_
  refine wz U ?_
  repeat (first|refine nt ?_|refine nq ?_|refine wq U ?_)
  refine wg U ?_
  refine wr U ((rm U).to (v' := (.int .i64 k0)) rfl) rfl rfl ?_
  refine wr U (rd_neq U rfl rfl) rfl rfl ?_
  refine wz U ?_
  repeat (first|refine nt ?_|refine nq ?_|refine wq U ?_)
  refine wcd U (t := (decide (k0 ≠ 0))) rfl (fun hk => ?_) fun hk => ?_
  · replace hk := of_decide_eq_true hk
    repeat (first|refine nt ?_|refine nq ?_|refine wq U ?_)
    refine wg U ?_
    refine wr U ((rm U).to (v' := (.int .i64 k0)) rfl) rfl rfl ?_
    refine wr U ((ra U).to (v' := (.int .i64 k0)) rfl) rfl rfl ?_
    refine wz U ?_
    refine wc_ret U ?_
    repeat (first|refine ret1 ?_|refine ret2 ?_)
    exact end1 U (.inl rfl) rfl (v := (.int .i64 k0)) rfl ⟨⟨_, rfl, fun h => absurd h hk⟩, hs1.trans hs2, by omega⟩
  · replace hk := of_decide_eq_false hk
    obtain ⟨m, E', rs, rfl, rfl, hg, rfl, hR⟩ := hk0 (by omega)
    rw [ecs_nE] at hv
    have hr := hr.nat U
    have hrl2 : ∀ r ∈ rs, r.length ≤ 1000 := fun r h => by have := hrl _ (List.mem_map.2 ⟨r, h, rfl⟩); simpa [castL] using this
    refine wsk U ?_
    repeat (first|refine nt ?_|refine nq ?_)
    repeat (first|refine nt ?_|refine nq ?_|refine wq U ?_)
    refine wg U ?_
    refine wr U (rd_load2 U el_24 rfl (v0 := (.int .i64 ((m : Nat) : Int))) (v1 := sv)  (by rw [rrw U (by omega) hx_5]; rfl) (by rw [rrw U (by omega) hx_5]; rfl)) rfl rfl ?_
    refine wr U ((rm U).to (v' := rv) rfl) rfl rfl ?_
    refine wl_op U rfl rfl (op_call U Tryz.f14 rfl rfl pf_14 (by kernel_rfl) (by kernel_rfl) ((s14 U m E' _ rv rs hg hR hrl2 _ _ ((hv.sub U hs1).sub U hs2) ((hr.sub U hs1).sub U hs2)).mono U ?_))
    rintro ev_ H3 N3 ⟨⟨cs, her, hcs⟩, hs3, hN3⟩
    obtain ⟨es, hes⟩ : ∃ l, cs.map (eulR E' (facesL m E' rs)) = l := ⟨_, rfl⟩
    rw [hes] at her
    obtain ⟨ep, ecap, rfl, hec, hep⟩ := her.cells1 U
    have hel := ints_length es
    refine wr U ((ra U).to (v' := (.slice ep ((ints es).length) ecap)) rfl) rfl rfl ?_
    refine wz U ?_
    have hcl := comps_len hcs; have hesl : es.length = cs.length := by rw [← hes]; simp
    have hs13 := (hs1.trans hs2).trans hs3
    have hmn := hg.hn
    repeat (first|refine nt ?_|refine nq ?_|refine wq U ?_)
    refine wg U ?_
    refine wr U ((ra U).to (v' := (.int .i64 0)) rfl) rfl rfl ?_
    refine wz U ?_
    repeat (first|refine nt ?_|refine nq ?_|refine wq U ?_)
    refine wc_block U ?_
    refine wc_loop U (fun q T H' N' => ∃ (i : Nat), i ≤ es.length ∧ q = es.length - i ∧ Has T [(6, (.slice ep ((ints es).length) ecap)), (7, (.int .i64 ((i : Nat) : Int)))] ∧ (∀ x ∈ es.take i, x = 2) ∧ H3 = H' ∧ N3 = N') es.length ⟨0, Nat.zero_le _, rfl, ⟨rfl, rfl, trivial⟩, by simp, rfl, rfl⟩ ?_
    rintro q T _ _ ⟨i, hi, rfl, hT, hall, rfl, rfl⟩
    obtain ⟨J, rfl⟩ := hT.ex
    repeat (first|refine nt ?_|refine nq ?_|refine wq U ?_)
    refine wg U ?_
    refine wr U ((rm U).to (v' := (.int .i64 ((i : Nat) : Int))) rfl) rfl rfl ?_
    refine wr U ((rm U).to (v' := (.slice ep ((ints es).length) ecap)) rfl) rfl rfl ?_
    refine wr U ((rd_len' U sl_26 rfl).to (v' := (.int .i64 (((ints es).length : Nat) : Int))) rfl) rfl rfl ?_
    refine wr U (rd_lss U rfl rfl) rfl rfl ?_
    refine wz U ?_
    repeat (first|refine nt ?_|refine nq ?_|refine wq U ?_)
    refine wcd U (t := (decide (((i : Nat) : Int) < (((ints es).length : Nat) : Int)))) rfl (fun hck => ?_) fun hck => ?_
    · replace hck := of_decide_eq_true hck
      refine wsk U ?_
      repeat (first|refine nt ?_|refine nq ?_)
      have hi1 : i < es.length := by omega
      obtain ⟨eb, eo, rfl⟩ := hep (by omega)
      repeat (first|refine nt ?_|refine nq ?_|refine wq U ?_)
      refine wc_block U ?_
      repeat (first|refine nt ?_|refine nq ?_|refine wq U ?_)
      refine wg U ?_
      refine wr U ((rm U).to (v' := (.slice (some ⟨eb, eo, none⟩) ((ints es).length) ecap)) rfl) rfl rfl ?_
      refine wr U ((rm U).to (v' := (.int .i64 ((i : Nat) : Int))) rfl) rfl rfl ?_
      refine wr U (rd_idx1 U (j := i) sl_26 rfl rfl (by omega)) rfl rfl ?_
      refine wr U (rl1 U el_3 rfl (v := (.int .i64 (es[i]))) (her.get U (ints_get hi1))) rfl rfl ?_
      refine wr U (rd_neq U rfl rfl) rfl rfl ?_
      refine wz U ?_
      repeat (first|refine nt ?_|refine nq ?_|refine wq U ?_)
      refine wcd U (t := (decide (es[i] ≠ 2))) rfl (fun hne => ?_) fun hne => ?_
      · replace hne := of_decide_eq_true hne
        repeat (first|refine nt ?_|refine nq ?_|refine wq U ?_)
        refine wg U ?_
        refine wr U ((ra U).to (v' := (.int .i64 12)) rfl) rfl rfl ?_
        refine wz U ?_
        refine wc_ret U ?_
        repeat (first|refine ret1 ?_|refine ret2 ?_)
        exact end1 U (.inl rfl) rfl (v := (.int .i64 12)) rfl ⟨⟨_, rfl, fun h => absurd h (by decide)⟩, hs13, by omega⟩
      · replace hne := of_decide_eq_false hne
        refine wsk U ?_
        repeat (first|refine nt ?_|refine nq ?_)
        repeat (first|refine nt ?_|refine nq ?_|refine wq U ?_)
        refine wg U ?_
        refine wr U ((rm U).to (v' := (.int .i64 ((i : Nat) : Int))) rfl) rfl rfl ?_
        refine wr U (rd_add U rfl rfl (by omega) (by omega)) rfl rfl ?_
        refine wr U ((ra U).to (v' := (.int .i64 (((i : Nat) : Int) + 1))) rfl) rfl rfl ?_
        refine wz U ?_
        repeat (first|refine nt ?_|refine nq ?_)
        exact ⟨es.length - (i + 1), by omega, i + 1, by omega, rfl, ⟨rfl, rfl, trivial⟩, (fun x hx => by rw [List.take_succ_eq_append_getElem hi1, List.mem_append, List.mem_singleton] at hx; rcases hx with hx | rfl; exact hall x hx; omega), rfl, rfl⟩
    · replace hck := of_decide_eq_false hck
      refine wc_exit U ?_
      repeat (first|refine xt ?_|refine xps (by decide) ?_)
      refine xbl ?_
      repeat (first|refine nt ?_|refine nq ?_)
      rw [List.take_of_length_le (by omega)] at hall
      repeat (first|refine nt ?_|refine nq ?_|refine wq U ?_)
      refine wg U ?_
      refine wr U ((ra U).to (v' := (.int .i64 0)) rfl) rfl rfl ?_
      refine wz U ?_
      have hpl : PlaneOk m E' rs := ⟨hR, fun cs' hcs' c hc => by
        have hc2 : c ∈ cs := Comps.same hcs' hcs hc
        rw [eul_eq hg hR (hcs'.c c hc) (hcs'.lt c hc)]
        exact hall _ (hes ▸ List.mem_map.2 ⟨c, hc2, rfl⟩)⟩
      refine wc_ret U ?_
      repeat (first|refine ret1 ?_|refine ret2 ?_)
      exact end1 U (.inl rfl) rfl (v := (.int .i64 0)) rfl ⟨⟨_, rfl, fun _ => ⟨m, E', rs, rfl, rfl, hg, rfl, hpl⟩⟩, hs13, by omega⟩
end Go.Proofs.YtdmodppoellbkaaGreat
