/-
Faces, Plane, Set, and the first reference functions.
-/
import Derived.Test.YtdmodppoellbkaaGreatM5
import Derived.Scope
set_option linter.unusedVariables false
set_option linter.unusedSimpArgs false
namespace Go.Proofs.YtdmodppoellbkaaGreat
open Go Go.RowKit
variable (U : Cx)
def noGotoP (Q : Post) : Post
  | .goto _, _, _, _ => False
  | e, T, H, N => Q e T H N
theorem wc_scope {n : Nat} {T : Tm} {H : Hp} {N : Nat} {Q : Post} {c : Code} (h : WC U n c T H N (noGotoP Q)) : WC U n (.scope c) T H N Q := by
  intro a w hs
  refine wp_scope_straight (wp_mono (h a w hs) ?_)
  intro e a' w' hq
  cases e <;> simp only [lift, noGotoP, Exit.noGoto] at hq ⊢ <;> first
    | exact hq
    | (obtain ⟨_, _, _, _, hq⟩ := hq; exact hq)
theorem ret_scope {Q : Post} {T : Tm} {H : Hp} {N : Nat} (h : Q .ret T H N) : noGotoP Q .ret T H N := h
/-- Faces that can be read. -/
def RdF (F : Hp) (v : Value) (fs : List (List ND)) : Prop := ∃ us, RdS U F v 1 us ∧ us.length = fs.length ∧ ∀ (i : Nat) (u : Value) (f : List ND), us[i]? = some u → fs[i]? = some f → RdS U F u 2 (dcs f)
theorem RdF.sub {F H : Hp} {v : Value} {fs : List (List ND)} (h : RdF U F v fs) (hs : Sub F H) : RdF U H v fs := by
  obtain ⟨us, h1, h2, h3⟩ := h
  exact ⟨us, h1.sub U hs, h2, fun i u f hu hf => (h3 i u f hu hf).sub U hs⟩
/-- Faces while they grow, and the one that is under way. -/
structure Fcm (H : Hp) (M : Nat) (v : Value) (us : List Value) (fs : List (List ND)) (fv : Value) (f : List ND) : Prop where
  sl : IsSl H v 57 1 us
  ul : us.length = fs.length
  nsl : ∀ (i : Nat) (u : Value) (g : List ND), us[i]? = some u → fs[i]? = some g → IsSl H u 56 2 (dcs g)
  cur : IsSl H fv 56 2 (dcs f)
  lo : ∀ c, blkOf v = some c → M ≤ c
  nlo : ∀ u ∈ us, ∀ c, blkOf u = some c → M ≤ c
  clo : ∀ c, blkOf fv = some c → M ≤ c
  ne : ∀ u ∈ us, ∀ c, blkOf u = some c → blkOf v ≠ some c ∧ blkOf fv ≠ some c
  ne2 : ∀ c, blkOf fv = some c → blkOf v ≠ some c
theorem Fcm.start (H : Hp) (M : Nat) : Fcm H M (.slice none 0 0) [] [] (.slice none 0 0) [] :=
  ⟨.inl ⟨rfl, rfl⟩, rfl, (fun i u g h => by cases h), .inl ⟨rfl, rfl⟩, (fun c h => by cases h), (fun u h => by cases h), (fun c h => by cases h), (fun u h => by cases h), fun c h => by cases h⟩
section
variable {H H' : Hp} {M N : Nat} {v fv : Value} {us : List Value} {fs : List (List ND)} {f : List ND}
theorem Fcm.ult (h : Fcm H M v us fs fv f) (hl : ∀ b o, H b = some o → U.B ≤ b ∧ b < N) {u : Value} (hu : u ∈ us) {c : Nat} (hc : blkOf u = some c) : c < N := by
  obtain ⟨i, hi⟩ := List.mem_iff_getElem?.1 hu
  obtain ⟨g, hg⟩ := get_ex (l := fs) (i := i) (by rw [← h.ul]; exact (List.getElem?_eq_some_iff.1 hi).1)
  exact ((h.nsl i u g hi hg).lt hl hc).2
theorem Fcm.at (h : Fcm H M v us fs fv f) (hl : ∀ b o, H b = some o → U.B ≤ b ∧ b < N) (hk : ∀ c, M ≤ c → c < N → H' c = H c) : Fcm H' M v us fs fv f :=
  { h with
    sl := h.sl.at fun c hc => hk c (h.lo c hc) (h.sl.lt hl hc).2
    nsl := fun i u g hu hg => (h.nsl i u g hu hg).at fun c hc => hk c (h.nlo u (List.mem_of_getElem? hu) c hc) ((h.nsl i u g hu hg).lt hl hc).2
    cur := h.cur.at fun c hc => hk c (h.clo c hc) (h.cur.lt hl hc).2 }
theorem Fcm.pushf {wA : Value} {cA : Nat} {x : ND} (h : Fcm H M v us fs fv f) (hl : ∀ b o, H b = some o → U.B ≤ b ∧ b < N) (hMN : M ≤ N) (hk : ∀ c, c < N → blkOf fv ≠ some c → H' c = H c)
    (hs : IsSl H' wA 56 2 (dcs f ++ [.int .i64 ((x.1 : Nat) : Int), .int .i64 ((x.2 : Nat) : Int)])) (hc : blkOf wA = some cA) (hcl : blkOf fv = some cA ∨ N ≤ cA) : Fcm H' M v us fs wA (f ++ [x]) := by
  refine ⟨h.sl.at fun c hv => hk c (h.sl.lt hl hv).2 (fun e => h.ne2 c e hv), h.ul, fun i u g hu hg => (h.nsl i u g hu hg).at fun c hv => hk c ((h.nsl i u g hu hg).lt hl hv).2 (h.ne u (List.mem_of_getElem? hu) c hv).2, by rw [dcs_append]; exact hs, h.lo, h.nlo, fun c e => ?_, fun u hu c hv => ⟨(h.ne u hu c hv).1, fun e => ?_⟩, fun c e hv => ?_⟩
  · rw [hc] at e; cases e
    rcases hcl with e | e
    · exact h.clo _ e
    · omega
  · rw [hc] at e; cases e
    rcases hcl with e | e
    · exact (h.ne u hu _ hv).2 e
    · have := h.ult U hl hu hv; omega
  · rw [hc] at e; cases e
    rcases hcl with e | e
    · exact h.ne2 _ e hv
    · have := (h.sl.lt hl hv).2; omega
theorem Fcm.pusho {wA : Value} {cA : Nat} (h : Fcm H M v us fs fv f) (hl : ∀ b o, H b = some o → U.B ≤ b ∧ b < N) (hMN : M ≤ N) (hk : ∀ c, c < N → blkOf v ≠ some c → H' c = H c)
    (hs : IsSl H' wA 57 1 (us ++ [fv])) (hc : blkOf wA = some cA) (hcl : blkOf v = some cA ∨ N ≤ cA) : Fcm H' M wA (us ++ [fv]) (fs ++ [f]) (.slice none 0 0) [] := by
  refine ⟨hs, by simp [h.ul], fun i u g hu hg => ?_, .inl ⟨rfl, rfl⟩, fun c e => ?_, fun u hu c hv => ?_, (fun c e => by cases e), fun u hu c hv => ⟨fun e => ?_, fun e => by cases e⟩, fun c e => by cases e⟩
  · rcases Nat.lt_or_ge i us.length with h1 | h1
    · rw [List.getElem?_append_left h1] at hu
      rw [List.getElem?_append_left (by rw [← h.ul]; exact h1)] at hg
      exact (h.nsl i u g hu hg).at fun c hv => hk c ((h.nsl i u g hu hg).lt hl hv).2 (h.ne u (List.mem_of_getElem? hu) c hv).1
    · rw [List.getElem?_append_right h1] at hu
      rw [List.getElem?_append_right (by rw [← h.ul]; exact h1)] at hg
      have h0 : i - us.length = 0 := by
        rcases Nat.eq_zero_or_pos (i - us.length) with h' | h'
        · exact h'
        · rw [List.getElem?_eq_none (by simp; omega)] at hu; cases hu
      rw [h0] at hu
      rw [← h.ul, h0] at hg
      simp at hu hg; subst hu; subst hg
      exact h.cur.at fun c hv => hk c (h.cur.lt hl hv).2 (h.ne2 c hv)
  · rw [hc] at e; cases e
    rcases hcl with e | e
    · exact h.lo _ e
    · omega
  · rcases List.mem_append.1 hu with h1 | h1
    · exact h.nlo u h1 c hv
    · simp at h1; subst h1; exact h.clo c hv
  · rw [hc] at e; cases e
    rcases List.mem_append.1 hu with h1 | h1
    · rcases hcl with e | e
      · exact (h.ne u h1 _ hv).1 e
      · have := h.ult U hl h1 hv; omega
    · simp at h1; subst h1
      rcases hcl with e | e
      · exact h.ne2 _ hv e
      · have := (h.cur.lt hl hv).2; omega
theorem Fcm.rd (h : Fcm H M v us fs fv f) (hB : ∀ b o, H b = some o → U.B ≤ b) : RdF U H v fs := ⟨us, h.sl.rds U hB, h.ul, fun i u g hu hg => (h.nsl i u g hu hg).rds U hB⟩
end
theorem dartsL_succ (E : List NE) {q : Nat} (h : q < E.length) : dartsL (E.take (q + 1)) = dartsL (E.take q) ++ [(E[q].1, E[q].2.1), (E[q].2.1, E[q].1)] := by
  rw [List.take_succ_eq_append_getElem h, dartsL, List.flatMap_append]; rfl
def trV : ND → Value := fun _ => .bool true
theorem look_tr (ds : List ND) (d : ND) : (look (dm trV ds) (nD d)).getD (.bool false) = .bool (decide (d ∈ ds)) := by
  rw [look_dm]; split <;> simp [trV, *]
theorem look_nx {rs : List (List Nat)} {ds : List ND} {d : ND} (h : d ∈ ds) (z : Value) : (look (dm (nxV rs) ds) (nD d)).getD z = nxV rs d := by rw [look_dm, if_pos h]; rfl
theorem facesO_len {α : Type} [DecidableEq α] {nx : α → α} {m : Nat} : ∀ (ds met : List α), (facesO nx m met ds).length ≤ ds.length
  | [], _ => by simp [facesO]
  | d :: ds, met => by
    simp only [facesO]
    split
    · have := facesO_len ds met (nx := nx) (m := m); simp; omega
    · have := facesO_len ds (met ++ orbO nx m d) (nx := nx) (m := m); simp; omega
theorem FInv.len {α : Type} [DecidableEq α] {nx : α → α} {D : α → Prop} {m : Nat} {all : List α} {k : Nat} {met : List α} {fs : List (List α)} (h : FInv nx D m all k met fs) : fs.length ≤ all.length := by
  have := facesO_len (nx := nx) (m := m) all []
  rw [h.eq, List.length_append] at this; omega
theorem s50 (n : Nat) (E : List NE) (sv rv : Value) (rs : List (List Nat)) (hg : GOk n E) (hR : Rot n E rs) (H : Hp) (N : Nat) (hv : RdS U H sv 3 (necs E)) (hr : Rd2 U H rv rs) : Spec U 50 #[(.agg #[(.int .i64 ((n : Nat) : Int)), sv]), rv] H N (fun v H' N' => ∃ ov, v = .tuple #[ov, .int .i64 0] ∧ RdF U H' ov (facesL n E rs) ∧ Sub H H' ∧ N ≤ N') := by
  obtain ⟨p, cap, rfl, hc, hp⟩ := hv.edges U
  refine spa U pf_50 (m := 84) rfl rfl (by simp) fun hBN hlt => ?_
  obtain ⟨J, hJ⟩ := Has.ex (T := argsT #[(.agg #[(.int .i64 ((n : Nat) : Int)), (.slice p E.length cap)]), rv]) (l := [(0, (.agg #[(.int .i64 ((n : Nat) : Int)), (.slice p E.length cap)])), (1, rv)]) ⟨rfl, rfl, trivial⟩
  rw [hJ]; clear hJ
  have hn := hg.hn; have hm := hg.hm
  repeat (first|refine nt ?_|refine nq ?_|refine wq U ?_)
  refine wg U ?_
  refine wl_op U rfl rfl (op_box U rfl rfl ?_)
  refine wr U ((ra U).to (v' := (.slice none 0 0)) rfl) rfl rfl ?_
  refine wr U ((ra U).to (v' := (.int .i64 0)) rfl) rfl rfl ?_
  refine wz U ?_
  repeat (first|refine nt ?_|refine nq ?_)
  refine wc_gen U (fun R => R N = some (.row 24 0 [(.int .i64 ((n : Nat) : Int)), (.slice p E.length cap)] 2) ∧ Sub _ R) ⟨(by first|(rw [hsy]; done) | (rw [hsy]; rfl)), ((Sub.refl _).hset (fresh hlt (by omega)))⟩ ?_
  rintro H1 ⟨hx_1, hs1⟩ hBNH1 hltH1
  repeat (first|refine nt ?_|refine nq ?_|refine wq U ?_)
  refine wc_scope U ?_
  repeat (first|refine nt ?_|refine nq ?_|refine wq U ?_)
  refine wg U ?_
  refine wr U (rd_load2 U el_24 rfl (v0 := (.int .i64 ((n : Nat) : Int))) (v1 := (.slice p E.length cap))  (by rw [rrw U (by omega) hx_1]; rfl) (by rw [rrw U (by omega) hx_1]; rfl)) rfl rfl ?_
  refine wr U ((rm U).to (v' := rv) rfl) rfl rfl ?_
  refine wl_op U rfl rfl (op_call U Tryz.f76 rfl rfl pf_76 (by kernel_rfl) (by kernel_rfl) ((s76 U n E _ rv rs hg hR _ _ (hv.sub U hs1) (hr.sub U hs1)).mono U ?_))
  rintro _ H2 N2 ⟨rfl, hs2, hN2⟩
  have hx_2 := hs2 N _ hx_1
  have hs_3 := (Sub.refl _).trans hs2
  refine wr U ((ra U).to (v' := (.int .i64 0)) rfl) rfl rfl ?_
  refine wz U ?_
  repeat (first|refine nt ?_|refine nq ?_|refine wq U ?_)
  refine wg U ?_
  refine wr U ((rm U).to (v' := (.int .i64 0)) rfl) rfl rfl ?_
  refine wr U ((rd_neq U rfl rfl).to (v' := (.bool false)) rfl) rfl rfl ?_
  refine wz U ?_
  repeat (first|refine nt ?_|refine nq ?_|refine wq U ?_)
  refine wcd U (t := false) rfl (fun h => nomatch h) fun _ => ?_
  refine wsk U ?_
  repeat (first|refine nt ?_|refine nq ?_)
  have hs12 := hs1.trans hs2
  repeat (first|refine nt ?_|refine nq ?_|refine wq U ?_)
  refine wg U ?_
  refine wr U ((rm U).to (v' := rv) rfl) rfl rfl ?_
  refine wl_op U rfl rfl (op_call U Tryz.f77 rfl rfl pf_77 (by kernel_rfl) (by kernel_rfl) ((s77 U n E rv rs hg hR H2 N2 (hr.sub U hs12)).mono U ?_))
  rintro _ H3 _ ⟨rfl, ⟨ds, hm3, hds⟩, hs3, rfl⟩
  refine wr U ((ra U).to (v' := (.map (some N2))) rfl) rfl rfl ?_
  refine wz U ?_
  repeat (first|refine nt ?_|refine nq ?_)
  refine wc_own U fun hBN3 hlt3 => ?_
  have hs13 := hs12.trans hs3
  have hbx3 : H3 N = _ := hs3 _ _ (hs2 _ _ hx_1)
  repeat (first|refine nt ?_|refine nq ?_|refine wq U ?_)
  refine wg U ?_
  refine wr U ((ra U).to (v' := (.slice none 0 0)) rfl) rfl rfl ?_
  refine wz U ?_
  have hNB : U.B ≤ N := hBN
  repeat (first|refine nt ?_|refine nq ?_|refine wq U ?_)
  refine wg U ?_
  refine wr U ((rfa U fb_24_1 rfl).to (v' := (.pointer (some ⟨N, 1, none⟩))) rfl) rfl rfl ?_
  refine wr U (rl1 U el_22 rfl (v := (.slice p E.length cap)) (by rw [rrw U (by omega) hbx3]; rfl)) rfl rfl ?_
  refine wr U ((rd_len' U sl_22 rfl).to (v' := (.int .i64 ((E.length : Nat) : Int))) rfl) rfl rfl ?_
  refine wr U ((rm U).to (v' := (.int .i64 0)) rfl) rfl rfl ?_
  refine wz U ?_
  repeat (first|refine nt ?_|refine nq ?_|refine wq U ?_)
  refine wc_block U ?_
  refine wc_loop U (fun m T H' N' => ∃ (q : Nat) (lv : Value), q ≤ E.length ∧ m = E.length - q ∧ Has T [(4, (.slice none 0 0)), (7, (.map (some N2))), (8, lv), (25, (.slice p E.length cap)), (26, (.int .i64 ((E.length : Nat) : Int))), (27, (.int .i64 ((q : Nat) : Int)))] ∧ IsSl H' lv 56 2 (dcs (dartsL (E.take q))) ∧ (∀ c, blkOf lv = some c → N2 + 1 ≤ c) ∧ Sub H3 H' ∧ N2 + 1 ≤ N') E.length ⟨0, .slice none 0 0, Nat.zero_le _, rfl, ⟨rfl, rfl, rfl, rfl, rfl, rfl, trivial⟩, .inl ⟨rfl, rfl⟩, (fun c hc => by cases hc), Sub.refl _, Nat.le_refl _⟩ ?_
  rintro m T H6 N6 ⟨q, lv, hq, rfl, hT, hlv, hlb, hs6, hN6⟩
  obtain ⟨J7, rfl⟩ := hT.ex
  refine wc_own U fun hBN6 hlt6 => ?_
  have hdl : (dartsL (E.take q)).length ≤ 2000 := by rw [dartsL_length, List.length_take]; omega
  repeat (first|refine nt ?_|refine nq ?_|refine wq U ?_)
  refine wg U ?_
  refine wr U (rd_lss U rfl rfl) rfl rfl ?_
  refine wz U ?_
  repeat (first|refine nt ?_|refine nq ?_|refine wq U ?_)
  refine wcd U (t := (decide (((q : Nat) : Int) < ((E.length : Nat) : Int)))) rfl (fun hcq => ?_) fun hcq => ?_
  · replace hcq := of_decide_eq_true hcq
    refine wsk U ?_
    repeat (first|refine nt ?_|refine nq ?_)
    have hq1 : q < E.length := by omega
    obtain ⟨eb, eoff, rfl⟩ := hp (by omega)
    repeat (first|refine nt ?_|refine nq ?_|refine wq U ?_)
    refine wc_block U ?_
    have hv6 := hv.sub U (hs13.trans hs6)
    repeat (first|refine nt ?_|refine nq ?_|refine wq U ?_)
    refine wg U ?_
    refine wr U (rd_idxN U (j := q) sl_22 rfl rfl (by omega)) rfl rfl ?_
    refine wr U (rd_load3 U el_43 rfl (v0 := (.int .i64 ((E[q].1 : Nat) : Int))) (v1 := (.int .i64 ((E[q].2.1 : Nat) : Int))) (v2 := (.int .i64 (E[q].2.2)))  (hv6.e0 U hq1) (hv6.e1 U hq1) (hv6.e2 U hq1)) rfl rfl ?_
    refine wl_op U rfl rfl (op_alloc U z_43 rfl ?_)
    refine wl_op0 U rfl (op_store U (vs := [(.int .i64 ((E[q].1 : Nat) : Int)), (.int .i64 ((E[q].2.1 : Nat) : Int)), (.int .i64 (E[q].2.2))]) (cs := [(.int .i64 0), (.int .i64 0), (.int .i64 0)]) el_43 rfl rfl rfl rfl (one3 rfl rfl rfl) (by first|(rw [hsy]; done) | (rw [hsy]; rfl)) (by omega) (by simp) ?_)
    refine wz U ?_
    repeat (first|refine nt ?_|refine nq ?_)
    refine wc_gen U (fun R => R N6 = some (.row 43 0 [(.int .i64 ((E[q].1 : Nat) : Int)), (.int .i64 ((E[q].2.1 : Nat) : Int)), (.int .i64 (E[q].2.2))] 3) ∧ Sub _ R) ⟨(by first|(rw [hsy]; done) | (rw [hsy]; rfl)), (((Sub.refl _).hset (fresh hlt6 (by omega))).hset (fresh hlt6 (by omega)))⟩ ?_
    rintro H7 ⟨hx_4, hs7⟩ hBNH7 hltH7
    repeat (first|refine nt ?_|refine nq ?_|refine wq U ?_)
    refine wg U ?_
    refine wr U ((rm U).to (v' := lv) rfl) rfl rfl ?_
    refine wr U ((rfa U fb_43_0 rfl).to (v' := (.pointer (some ⟨N6, 0, none⟩))) rfl) rfl rfl ?_
    refine wr U (rl1 U el_3 rfl (v := (.int .i64 ((E[q].1 : Nat) : Int))) (by rw [rrw U (by omega) hx_4]; rfl)) rfl rfl ?_
    refine wr U ((rfa U fb_43_1 rfl).to (v' := (.pointer (some ⟨N6, 1, none⟩))) rfl) rfl rfl ?_
    refine wr U (rl1 U el_3 rfl (v := (.int .i64 ((E[q].2.1 : Nat) : Int))) (by rw [rrw U (by omega) hx_4]; rfl)) rfl rfl ?_
    refine wr U (rd_build U (cells := #[(.int .i64 ((E[q].1 : Nat) : Int)), (.int .i64 ((E[q].2.1 : Nat) : Int))]) (by unfold P; kernel_rfl)) rfl rfl ?_
    refine wr U ((rfa U fb_43_1 rfl).to (v' := (.pointer (some ⟨N6, 1, none⟩))) rfl) rfl rfl ?_
    refine wr U (rl1 U el_3 rfl (v := (.int .i64 ((E[q].2.1 : Nat) : Int))) (by rw [rrw U (by omega) hx_4]; rfl)) rfl rfl ?_
    refine wr U ((rfa U fb_43_0 rfl).to (v' := (.pointer (some ⟨N6, 0, none⟩))) rfl) rfl rfl ?_
    refine wr U (rl1 U el_3 rfl (v := (.int .i64 ((E[q].1 : Nat) : Int))) (by rw [rrw U (by omega) hx_4]; rfl)) rfl rfl ?_
    refine wr U (rd_build U (cells := #[(.int .i64 ((E[q].2.1 : Nat) : Int)), (.int .i64 ((E[q].1 : Nat) : Int))]) (by unfold P; kernel_rfl)) rfl rfl ?_
    refine wl_op U rfl rfl (op_bs U sl_57 rfl (by decide) (by decide) [(.agg #[(.int .i64 ((E[q].1 : Nat) : Int)), (.int .i64 ((E[q].2.1 : Nat) : Int))]), (.agg #[(.int .i64 ((E[q].2.1 : Nat) : Int)), (.int .i64 ((E[q].1 : Nat) : Int))])] rfl (by simp [Value.cells]) rfl (cs := [(.int .i64 ((E[q].1 : Nat) : Int)), (.int .i64 ((E[q].2.1 : Nat) : Int)), (.int .i64 ((E[q].2.1 : Nat) : Int)), (.int .i64 ((E[q].1 : Nat) : Int))]) rfl ?_)
    have hlv7 := hlv.sub hs7
    have hlvn : ∀ c, blkOf lv = some c → c < N6 := fun c hc => (hlv.lt hlt6 hc).2
    refine wl_op U rfl rfl (op_appendF U (cs := dcs (dartsL (E.take q))) (ys := [(.int .i64 ((E[q].1 : Nat) : Int)), (.int .i64 ((E[q].2.1 : Nat) : Int)), (.int .i64 ((E[q].2.1 : Nat) : Int)), (.int .i64 ((E[q].1 : Nat) : Int))]) sl_57 rfl (by decide) rfl (hlv7.at fun c hc => hsn (by have := hlvn c hc; omega)) rfl rfl (lit_read U (by omega)) (by intro u hu; simp only [List.mem_cons, List.not_mem_nil, or_false] at hu; rcases hu with rfl | rfl | rfl | rfl <;> rfl) (by decide) (by rw [dcs_length]; simp; omega) (by rw [dcs_length]; simp; omega) ?_)
    intro wA HA NA hNA hslA hfrA hloA
    refine wr U ((ra U).to (v' := wA) rfl) rfl rfl ?_
    refine wz U ?_
    repeat (first|refine nt ?_|refine nq ?_)
    obtain ⟨cA, hcA1, hcA2, hcA3⟩ := hloA
    have hA : ∀ c, c < N6 + 1 → blkOf lv ≠ some c → HA c = H7 c := fun c hc hne => (hfrA c (by omega) hne).trans (hsn (by omega))
    repeat (first|refine nt ?_|refine nq ?_|refine wq U ?_)
    refine wg U ?_
    refine wr U (rd_add U rfl rfl (by omega) (by omega)) rfl rfl ?_
    refine wr U ((rm U).to (v' := (.int .i64 (((q : Nat) : Int) + 1))) rfl) rfl rfl ?_
    refine wz U ?_
    repeat (first|refine nt ?_|refine nq ?_)
    exact ⟨E.length - (q + 1), by omega, q + 1, wA, by omega, rfl, ⟨rfl, rfl, rfl, rfl, rfl, rfl, trivial⟩, by rw [dartsL_succ E hq1, dcs_append]; exact hslA, (fun c hc => by rw [hcA1] at hc; cases hc; rcases hcA3 with h | h; exact hlb _ h; omega), (hs6.trans hs7).of fun c o hc => hA c (by have := (hlt3 c o hc).2; omega) (fun h => by have := hlb c h; have := (hlt3 c o hc).2; omega), by omega⟩
  · replace hcq := of_decide_eq_false hcq
    refine wc_exit U ?_
    repeat (first|refine xt ?_|refine xps (by decide) ?_)
    refine xbl ?_
    repeat (first|refine nt ?_|refine nq ?_)
    have hql : q = E.length := by omega
    rw [hql, List.take_length] at hlv hdl
    repeat (first|refine nt ?_|refine nq ?_|refine wq U ?_)
    refine wg U ?_
    refine wr U ((rm U).to (v' := lv) rfl) rfl rfl ?_
    refine wl_op U rfl rfl (op_call U Tryz.f78 rfl rfl pf_78 (by kernel_rfl) (by kernel_rfl) ((s78 U lv (dartsL E) H6 N6 hlv (by omega)).mono U ?_))
    rintro _ H8 N8 ⟨rfl, hN8, ⟨all, hperm, hsrt, hal⟩, hfr8⟩
    refine wz U ?_
    repeat (first|refine nt ?_|refine nq ?_)
    have halle := dartS_eq hg hR hperm hsrt
    have halll : all.length = 2 * E.length := by rw [hperm.length_eq, dartsL_length]
    have hs38 : Sub H3 H8 := hs6.of fun c o hc => hfr8 c (fun h => by have := hlb c h; have := (hlt3 c o hc).2; omega)
    refine wc_own U fun hBN8 hlt8 => ?_
    have har := hal.rds U (fun b o h => (hlt8 b o h).1)
    obtain ⟨ap, ak, acap, rfl, hak, hac, hap⟩ := hal.form
    obtain rfl : ak = all.length := by rw [dcs_length] at hak; omega
    repeat (first|refine nt ?_|refine nq ?_|refine wq U ?_)
    refine wg U ?_
    refine wl_op U rfl rfl (op_makeMap U ?_)
    refine wr U ((ra U).to (v' := (.map (some N8))) rfl) rfl rfl ?_
    refine wz U ?_
    repeat (first|refine nt ?_|refine nq ?_)
    refine wc_gen U (fun R => R N8 = some (.map (encM encD (dm trV []))) ∧ Sub H8 R) ⟨hsy, (Sub.refl H8).hset (fresh hlt8 (by omega))⟩ ?_
    rintro H9 ⟨hm9, hs9⟩ hBN9 hlt9
    repeat (first|refine nt ?_|refine nq ?_|refine wq U ?_)
    refine wc_label U ?_
    repeat (first|refine nt ?_|refine nq ?_)
    repeat (first|refine nt ?_|refine nq ?_|refine wq U ?_)
    refine wg U ?_
    refine wr U ((rm U).to (v' := (.slice ap all.length acap)) rfl) rfl rfl ?_
    refine wr U ((rd_len' U sl_57 rfl).to (v' := (.int .i64 ((all.length : Nat) : Int))) rfl) rfl rfl ?_
    refine wr U ((rm U).to (v' := (.int .i64 0)) rfl) rfl rfl ?_
    refine wz U ?_
    repeat (first|refine nt ?_|refine nq ?_|refine wq U ?_)
    refine wc_block U ?_
    have htn := hR.turn
    refine wc_loop U (fun m T H' N' => ∃ (k : Nat) (met : List ND) (fs : List (List ND)) (us : List Value) (ov : Value), k ≤ all.length ∧ m = all.length - k ∧ Has T [(4, ov), (7, (.map (some N2))), (8, (.slice ap all.length acap)), (11, (.map (some N8))), (48, (.slice ap all.length acap)), (49, (.int .i64 ((all.length : Nat) : Int))), (50, (.int .i64 ((k : Nat) : Int)))] ∧ FInv (nxtD rs) (fun d : ND => adj E d.1 d.2) (2 * E.length) all k met fs ∧ H' N8 = some (.map (encM encD (dm trV met))) ∧ Fcm H' (N8 + 1) ov us fs (.slice none 0 0) [] ∧ Sub H8 H' ∧ N8 + 1 ≤ N') all.length ⟨0, [], [], [], .slice none 0 0, Nat.zero_le _, rfl, ⟨rfl, rfl, rfl, rfl, rfl, rfl, rfl, trivial⟩, FInv.start _ _ _ _, hm9, Fcm.start _ _, hs9, Nat.le_refl _⟩ ?_
    clear hm9 hs9
    rintro m T H10 N10 ⟨k, met, fs, us, ov, hk, rfl, hT, hFI, hm10, hFc, hs10, hN10⟩
    obtain ⟨J8, rfl⟩ := hT.ex
    refine wc_own U fun hBN10 hlt10 => ?_
    repeat (first|refine nt ?_|refine nq ?_|refine wq U ?_)
    refine wg U ?_
    refine wr U (rd_lss U rfl rfl) rfl rfl ?_
    refine wz U ?_
    repeat (first|refine nt ?_|refine nq ?_|refine wq U ?_)
    refine wcd U (t := (decide (((k : Nat) : Int) < ((all.length : Nat) : Int)))) rfl (fun hck => ?_) fun hck => ?_
    · replace hck := of_decide_eq_true hck
      refine wsk U ?_
      repeat (first|refine nt ?_|refine nq ?_)
      have hk1 : k < all.length := by omega
      obtain ⟨ab, aoff, rfl⟩ := hap (by omega)
      repeat (first|refine nt ?_|refine nq ?_|refine wq U ?_)
      refine wc_block U ?_
      have hgd := dcs_get all hk1
      have har10 := har.sub U hs10
      repeat (first|refine nt ?_|refine nq ?_|refine wq U ?_)
      refine wg U ?_
      refine wr U (rd_idxN U (j := k) sl_57 rfl rfl (by omega)) rfl rfl ?_
      refine wr U (rd_load2 U el_56 rfl (v0 := (.int .i64 ((all[k].1 : Nat) : Int))) (v1 := (.int .i64 ((all[k].2 : Nat) : Int)))  (har10.get U hgd.1) (har10.get U hgd.2)) rfl rfl ?_
      refine wl_op U rfl rfl (op_alloc U z_56 rfl ?_)
      refine wl_op0 U rfl (op_store U (vs := [(.int .i64 ((all[k].1 : Nat) : Int)), (.int .i64 ((all[k].2 : Nat) : Int))]) (cs := [(.int .i64 0), (.int .i64 0)]) el_56 rfl rfl rfl rfl (one2 rfl rfl) (by first|(rw [hsy]; done) | (rw [hsy]; rfl)) (by omega) (by simp) ?_)
      refine wz U ?_
      repeat (first|refine nt ?_|refine nq ?_|refine wq U ?_)
      refine wg U ?_
      refine wr U ((ra U).to (v' := (.slice none 0 0)) rfl) rfl rfl ?_
      refine wz U ?_
      repeat (first|refine nt ?_|refine nq ?_|refine wq U ?_)
      refine wg U ?_
      refine wr U (rd_load2 U el_56 rfl (v0 := (.int .i64 ((all[k].1 : Nat) : Int))) (v1 := (.int .i64 ((all[k].2 : Nat) : Int)))  (by rw [rhq U (by omega)]; rfl) (by rw [rhq U (by omega)]; rfl)) rfl rfl ?_
      refine wl_op U rfl rfl (op_alloc U z_56 rfl ?_)
      refine wl_op0 U rfl (op_store U (vs := [(.int .i64 ((all[k].1 : Nat) : Int)), (.int .i64 ((all[k].2 : Nat) : Int))]) (cs := [(.int .i64 0), (.int .i64 0)]) el_56 rfl rfl rfl rfl (one2 rfl rfl) (by first|(rw [hsy]; done) | (rw [hsy]; rfl)) (by omega) (by simp) ?_)
      refine wz U ?_
      repeat (first|refine nt ?_|refine nq ?_)
      refine wc_gen U (fun R => R (N10 + 1) = some (.row 56 0 [.int .i64 ((all[k].1 : Nat) : Int), .int .i64 ((all[k].2 : Nat) : Int)] 2) ∧ Sub H10 R) ⟨hsy, ?_⟩ ?_
      · exact ((((Sub.refl H10).hset (fresh hlt10 (by omega))).hset (fresh hlt10 (by omega))).hset (fresh hlt10 (by omega))).hset (fresh hlt10 (by omega))
      rintro H11 ⟨hd11, hs11⟩ hBN11 hlt11
      have hFcS : Fcm H11 (N8 + 1) ov us fs (.slice none 0 0) [] := { hFc with sl := hFc.sl.sub hs11, nsl := fun i u g hu hg => (hFc.nsl i u g hu hg).sub hs11, cur := hFc.cur.sub hs11 }
      have had : adj E all[k].1 all[k].2 := by have := List.getElem_mem hk1; rw [hperm.mem_iff, mem_dartsL] at this; exact this
      repeat (first|refine nt ?_|refine nq ?_|refine wq U ?_)
      refine wc_block U ?_
      refine wc_loop U (fun m T H' N' => ∃ (f : List ND) (x : ND) (fp : Option Addr) (fcap b5 : Nat), m = 2 * E.length + 1 - f.length ∧ f.length ≤ 2 * E.length ∧ Has T [(4, ov), (7, (.map (some N2))), (8, (.slice (some ⟨ab, aoff, none⟩) all.length acap)), (11, (.map (some N8))), (14, (.slice fp f.length fcap)), (15, (.pointer (some ⟨b5, 0, none⟩))), (48, (.slice (some ⟨ab, aoff, none⟩) all.length acap)), (49, (.int .i64 ((all.length : Nat) : Int))), (50, (.int .i64 ((k : Nat) : Int)))] ∧ ((f = [] ∧ x = all[k]) ∨ Way (nxtD rs) (fun d : ND => adj E d.1 d.2) (2 * E.length) met all[k] f x) ∧ H' N8 = some (.map (encM encD (dm trV (met ++ f)))) ∧ Fcm H' (N8 + 1) ov us fs (.slice fp f.length fcap) f ∧ H' b5 = some (.row 56 0 [.int .i64 ((x.1 : Nat) : Int), .int .i64 ((x.2 : Nat) : Int)] 2) ∧ blkOf (.slice fp f.length fcap) ≠ some b5 ∧ b5 ≠ N8 ∧ Sub H8 H' ∧ N8 + 1 ≤ N') (2 * E.length + 1) ⟨[], all[k], none, 0, N10 + 1, by simp, by simp, ⟨rfl, rfl, rfl, rfl, rfl, rfl, rfl, rfl, rfl, trivial⟩, .inl ⟨rfl, rfl⟩, by rw [List.append_nil]; exact hs11 _ _ hm10, hFcS, hd11, (fun h => by cases h), by omega, hs10.trans hs11, by omega⟩ ?_
      rintro m T H12 N12 ⟨f, x, fp, fcap, b5, rfl, hfl, hT, hW, hm12, hF12, hd12, hb5f, hb5n, hs12b, hN12⟩
      obtain ⟨J9, rfl⟩ := hT.ex
      refine wc_own U fun hBN12 hlt12 => ?_
      have hb5B := hlt12 _ _ hd12
      by_cases hxm : x ∈ met ++ f
      · skip
        repeat (first|refine nt ?_|refine nq ?_|refine wq U ?_)
        repeat (first|refine nt ?_|refine nq ?_|refine wq U ?_)
        refine wc_block U ?_
        repeat (first|refine nt ?_|refine nq ?_|refine wq U ?_)
        refine wc_block U ?_
        repeat (first|refine nt ?_|refine nq ?_|refine wq U ?_)
        refine wc_block U ?_
        repeat (first|refine nt ?_|refine nq ?_|refine wq U ?_)
        refine wc_block U ?_
        rcases hW with ⟨hf0, hx0⟩ | hW
        · skip
          have hf00 : f.length = 0 := by rw [hf0]; rfl
          repeat (first|refine nt ?_|refine nq ?_|refine wq U ?_)
          refine wg U ?_
          refine wr U ((rm U).to (v' := (.map (some N8))) rfl) rfl rfl ?_
          refine wr U (rd_load2 U el_56 rfl (v0 := (.int .i64 ((x.1 : Nat) : Int))) (v1 := (.int .i64 ((x.2 : Nat) : Int)))  (by rw [rrw U (by omega) hd12]; rfl) (by rw [rrw U (by omega) hd12]; rfl)) rfl rfl ?_
          refine wr U ((rd_lookup U um_127 key_dart z_4 rfl (k := nD x) rfl (m := dm trV (met ++ f)) (.inl hm12)).to (v' := (.bool true)) (by rw [look_tr]; simp [hxm])) rfl rfl ?_
          refine wr U ((rm U).to (v' := (.bool true)) rfl) rfl rfl ?_
          refine wr U ((rm U).to (v' := (.slice fp f.length fcap)) rfl) rfl rfl ?_
          refine wr U ((rd_len' U sl_57 rfl).to (v' := (.int .i64 ((f.length : Nat) : Int))) rfl) rfl rfl ?_
          refine wr U ((rd_gtr U rfl rfl).to (v' := (.bool false)) (congrArg Value.bool (decide_eq_false (by omega)))) rfl rfl ?_
          refine wr U ((rd_pick U rfl).to (v' := (.bool false)) rfl) rfl rfl ?_
          refine wr U ((ra U).to (v' := (.bool false)) rfl) rfl rfl ?_
          refine wz U ?_
          repeat (first|refine nt ?_|refine nq ?_|refine wq U ?_)
          refine wcd U (t := false) rfl (fun h => nomatch h) fun _ => ?_
          refine wsk U ?_
          repeat (first|refine nt ?_|refine nq ?_)
          repeat (first|refine nt ?_|refine nq ?_|refine wq U ?_)
          refine wg U ?_
          refine wr U ((rm U).to (v' := (.map (some N8))) rfl) rfl rfl ?_
          refine wr U (rd_load2 U el_56 rfl (v0 := (.int .i64 ((x.1 : Nat) : Int))) (v1 := (.int .i64 ((x.2 : Nat) : Int)))  (by rw [rrw U (by omega) hd12]; rfl) (by rw [rrw U (by omega) hd12]; rfl)) rfl rfl ?_
          refine wr U ((rd_lookup U um_127 key_dart z_4 rfl (k := nD x) rfl (m := dm trV (met ++ f)) (.inl hm12)).to (v' := (.bool true)) (by rw [look_tr]; simp [hxm])) rfl rfl ?_
          refine wr U ((ra U).to (v' := (.bool true)) rfl) rfl rfl ?_
          refine wz U ?_
          repeat (first|refine nt ?_|refine nq ?_|refine wq U ?_)
          refine wcd U (t := true) rfl (fun _ => ?_) (fun h => nomatch h)
          refine wc_exit U ?_
          repeat (first|refine xt ?_|refine xps (by decide) ?_)
          refine xbl ?_
          repeat (first|refine nt ?_|refine nq ?_)
          repeat (first|refine nt ?_|refine nq ?_|refine wq U ?_)
          refine wc_exit U ?_
          repeat (first|refine xt ?_|refine xps (by decide) ?_)
          refine xbl ?_
          repeat (first|refine nt ?_|refine nq ?_)
          repeat (first|refine nt ?_|refine nq ?_|refine wq U ?_)
          refine wg U ?_
          refine wr U (rd_add U rfl rfl (by omega) (by omega)) rfl rfl ?_
          refine wr U ((rm U).to (v' := (.int .i64 (((k : Nat) : Int) + 1))) rfl) rfl rfl ?_
          refine wz U ?_
          repeat (first|refine nt ?_|refine nq ?_)
          rw [hf0, List.append_nil] at hm12 hxm
          rw [hx0] at hxm
          refine ⟨all.length - (k + 1), by omega, k + 1, met, fs, us, ov, by omega, rfl, ⟨rfl, rfl, rfl, rfl, rfl, rfl, rfl, trivial⟩, hFI.skip hk1 hxm, hm12, { hF12 with cur := .inl ⟨rfl, rfl⟩, clo := (fun c h => by cases h), ne := fun u hu c hc => ⟨(hF12.ne u hu c hc).1, fun h => by cases h⟩, ne2 := (fun c h => by cases h) }, hs12b, by omega⟩
        · skip
          have hfp : 0 < f.length := by obtain ⟨g, hg⟩ := hW.ne; rw [hg]; simp
          repeat (first|refine nt ?_|refine nq ?_|refine wq U ?_)
          refine wg U ?_
          refine wr U ((rm U).to (v' := (.map (some N8))) rfl) rfl rfl ?_
          refine wr U (rd_load2 U el_56 rfl (v0 := (.int .i64 ((x.1 : Nat) : Int))) (v1 := (.int .i64 ((x.2 : Nat) : Int)))  (by rw [rrw U (by omega) hd12]; rfl) (by rw [rrw U (by omega) hd12]; rfl)) rfl rfl ?_
          refine wr U ((rd_lookup U um_127 key_dart z_4 rfl (k := nD x) rfl (m := dm trV (met ++ f)) (.inl hm12)).to (v' := (.bool true)) (by rw [look_tr]; simp [hxm])) rfl rfl ?_
          refine wr U ((rm U).to (v' := (.bool true)) rfl) rfl rfl ?_
          refine wr U ((rm U).to (v' := (.slice fp f.length fcap)) rfl) rfl rfl ?_
          refine wr U ((rd_len' U sl_57 rfl).to (v' := (.int .i64 ((f.length : Nat) : Int))) rfl) rfl rfl ?_
          refine wr U ((rd_gtr U rfl rfl).to (v' := (.bool true)) (congrArg Value.bool (decide_eq_true (by omega)))) rfl rfl ?_
          refine wr U ((rd_pick U rfl).to (v' := (.bool true)) rfl) rfl rfl ?_
          refine wr U ((ra U).to (v' := (.bool true)) rfl) rfl rfl ?_
          refine wz U ?_
          repeat (first|refine nt ?_|refine nq ?_|refine wq U ?_)
          refine wcd U (t := true) rfl (fun _ => ?_) (fun h => nomatch h)
          refine wc_exit U ?_
          repeat (first|refine xt ?_|refine xps (by decide) ?_)
          refine xbl ?_
          repeat (first|refine nt ?_|refine nq ?_)
          have hfsl := hFI.len
          have husl := hF12.ul
          repeat (first|refine nt ?_|refine nq ?_|refine wq U ?_)
          refine wg U ?_
          refine wr U ((rm U).to (v' := ov) rfl) rfl rfl ?_
          refine wr U ((rm U).to (v' := (.slice fp f.length fcap)) rfl) rfl rfl ?_
          refine wl_op U rfl rfl (op_bs U sl_53 rfl (by decide) (by decide) [(.slice fp f.length fcap)] rfl (by simp [Value.cells]) rfl (cs := [(.slice fp f.length fcap)]) rfl ?_)
          refine wl_op U rfl rfl (op_append1 U (H0 := _) (cs := us) (ys := [(.slice fp f.length fcap)]) sl_53 rfl (by decide) rfl hF12.sl (fun hc => by have := (hF12.sl.lt hlt12 hc).2; omega) rfl rfl rfl (by omega) (one1 rfl) (by omega) (by omega) ?_)
          intro wA HA NA hNA hslA hfrA hloA
          refine wr U ((ra U).to (v' := wA) rfl) rfl rfl ?_
          refine wz U ?_
          repeat (first|refine nt ?_|refine nq ?_)
          obtain ⟨cA, hcA1, hcA2, hcA3⟩ := hloA
          have hA : ∀ c, c < N12 → blkOf ov ≠ some c → HA c = H12 c := fun c hc hne => (hfrA c (by omega) hne).trans (hsn (by omega))
          have hFA := hF12.pusho U hlt12 (by omega) hA hslA hcA1 (hcA3.imp id (by omega))
          have hovn : ∀ c, c < N8 + 1 → blkOf ov ≠ some c := fun c hc e => by have := hF12.lo c e; omega
          repeat (first|refine nt ?_|refine nq ?_|refine wq U ?_)
          refine wc_exit U ?_
          repeat (first|refine xt ?_|refine xps (by decide) ?_)
          refine xbl ?_
          repeat (first|refine nt ?_|refine nq ?_)
          repeat (first|refine nt ?_|refine nq ?_|refine wq U ?_)
          refine wg U ?_
          refine wr U (rd_add U rfl rfl (by omega) (by omega)) rfl rfl ?_
          refine wr U ((rm U).to (v' := (.int .i64 (((k : Nat) : Int) + 1))) rfl) rfl rfl ?_
          refine wz U ?_
          repeat (first|refine nt ?_|refine nq ?_)
          refine ⟨all.length - (k + 1), by omega, k + 1, met ++ f, fs ++ [f], us ++ [(.slice fp f.length fcap)], wA, by omega, rfl, ⟨rfl, rfl, rfl, rfl, rfl, rfl, rfl, trivial⟩, hFI.face htn hk1 hW (by simpa using hxm), (hA _ (by omega) (hovn _ (by omega))).trans hm12, hFA, hs12b.of fun c o hc => hA c (by have := (hlt8 c o hc).2; omega) (hovn c (by have := (hlt8 c o hc).2; omega)), by omega⟩
      · skip
        have hxm1 : x ∉ met := fun hh => hxm (by simp [hh])
        have hxm2 : x ∉ f := fun hh => hxm (by simp [hh])
        repeat (first|refine nt ?_|refine nq ?_|refine wq U ?_)
        repeat (first|refine nt ?_|refine nq ?_|refine wq U ?_)
        refine wc_block U ?_
        repeat (first|refine nt ?_|refine nq ?_|refine wq U ?_)
        refine wc_block U ?_
        repeat (first|refine nt ?_|refine nq ?_|refine wq U ?_)
        refine wc_block U ?_
        repeat (first|refine nt ?_|refine nq ?_|refine wq U ?_)
        refine wc_block U ?_
        repeat (first|refine nt ?_|refine nq ?_|refine wq U ?_)
        refine wg U ?_
        refine wr U ((rm U).to (v' := (.map (some N8))) rfl) rfl rfl ?_
        refine wr U (rd_load2 U el_56 rfl (v0 := (.int .i64 ((x.1 : Nat) : Int))) (v1 := (.int .i64 ((x.2 : Nat) : Int)))  (by rw [rrw U (by omega) hd12]; rfl) (by rw [rrw U (by omega) hd12]; rfl)) rfl rfl ?_
        refine wr U ((rd_lookup U um_127 key_dart z_4 rfl (k := nD x) rfl (m := dm trV (met ++ f)) (.inl hm12)).to (v' := (.bool false)) (by rw [look_tr]; simp [hxm])) rfl rfl ?_
        refine wr U ((rm U).to (v' := (.bool false)) rfl) rfl rfl ?_
        refine wl_pass U rfl rfl ?_
        refine wl_pass U rfl rfl ?_
        refine wl_pass U rfl rfl ?_
        refine wr U ((rd_pick U rfl).to (v' := (.bool false)) rfl) rfl rfl ?_
        refine wr U ((ra U).to (v' := (.bool false)) rfl) rfl rfl ?_
        refine wz U ?_
        repeat (first|refine nt ?_|refine nq ?_|refine wq U ?_)
        refine wcd U (t := false) rfl (fun h => nomatch h) fun _ => ?_
        refine wsk U ?_
        repeat (first|refine nt ?_|refine nq ?_)
        repeat (first|refine nt ?_|refine nq ?_|refine wq U ?_)
        refine wg U ?_
        refine wr U ((rm U).to (v' := (.map (some N8))) rfl) rfl rfl ?_
        refine wr U (rd_load2 U el_56 rfl (v0 := (.int .i64 ((x.1 : Nat) : Int))) (v1 := (.int .i64 ((x.2 : Nat) : Int)))  (by rw [rrw U (by omega) hd12]; rfl) (by rw [rrw U (by omega) hd12]; rfl)) rfl rfl ?_
        refine wr U ((rd_lookup U um_127 key_dart z_4 rfl (k := nD x) rfl (m := dm trV (met ++ f)) (.inl hm12)).to (v' := (.bool false)) (by rw [look_tr]; simp [hxm])) rfl rfl ?_
        refine wr U ((ra U).to (v' := (.bool false)) rfl) rfl rfl ?_
        refine wz U ?_
        repeat (first|refine nt ?_|refine nq ?_|refine wq U ?_)
        refine wcd U (t := false) rfl (fun h => nomatch h) fun _ => ?_
        refine wsk U ?_
        repeat (first|refine nt ?_|refine nq ?_)
        repeat (first|refine nt ?_|refine nq ?_|refine wq U ?_)
        refine wc_exit U ?_
        repeat (first|refine xt ?_|refine xps (by decide) ?_)
        refine xbl ?_
        repeat (first|refine nt ?_|refine nq ?_)
        obtain ⟨hadx, hW2, hf2⟩ : adj E x.1 x.2 ∧ Way (nxtD rs) (fun d : ND => adj E d.1 d.2) (2 * E.length) met all[k] (f ++ [x]) (nxtD rs x) ∧ f.length + 1 ≤ 2 * E.length := by
          rcases hW with ⟨rfl, rfl⟩ | hW
          · exact ⟨had, Way.start htn had hxm1, by simp; omega⟩
          · have hl := hW.len hxm2
            exact ⟨hW.dx, hW.next htn hxm1 hxm2 (by omega), hl⟩
        repeat (first|refine nt ?_|refine nq ?_|refine wq U ?_)
        refine wg U ?_
        refine wr U ((rm U).to (v' := (.map (some N8))) rfl) rfl rfl ?_
        refine wr U (rd_load2 U el_56 rfl (v0 := (.int .i64 ((x.1 : Nat) : Int))) (v1 := (.int .i64 ((x.2 : Nat) : Int)))  (by rw [rrw U (by omega) hd12]; rfl) (by rw [rrw U (by omega) hd12]; rfl)) rfl rfl ?_
        refine wl_op0 U rfl (op_mapUpdate U (v := trV x) (k := nD x) (m := dm trV (met ++ f)) um_127 key_dart rfl rfl rfl hm12 ?_)
        refine wz U ?_
        repeat (first|refine nt ?_|refine nq ?_)
        rw [put_dm trV hxm, List.append_assoc]
        have hn8 : ∀ c, c ≠ N8 → hset H12 N8 (.map (encM encD (dm trV (met ++ (f ++ [x]))))) c = H12 c := fun c hc => hsn hc
        have hF13 := hF12.at U (H' := hset H12 N8 (.map (encM encD (dm trV (met ++ (f ++ [x])))))) hlt12 (fun c h1 h2 => hn8 c (by omega))
        have hlt13 : ∀ b o, (hset H12 N8 (.map (encM encD (dm trV (met ++ (f ++ [x])))))) b = some o → U.B ≤ b ∧ b < N12 := fun b o h => by unfold hset at h; split at h; rename_i e; exact e ▸ hlt12 _ _ hm12; exact hlt12 b o h
        repeat (first|refine nt ?_|refine nq ?_|refine wq U ?_)
        refine wg U ?_
        refine wr U ((rm U).to (v' := (.slice fp f.length fcap)) rfl) rfl rfl ?_
        refine wr U (rd_load2 U el_56 rfl (v0 := (.int .i64 ((x.1 : Nat) : Int))) (v1 := (.int .i64 ((x.2 : Nat) : Int)))  (by rw [rrw U (by omega) ((hn8 _ hb5n).trans hd12)]; rfl) (by rw [rrw U (by omega) ((hn8 _ hb5n).trans hd12)]; rfl)) rfl rfl ?_
        refine wl_op U rfl rfl (op_bs U sl_57 rfl (by decide) (by decide) [(.agg #[(.int .i64 ((x.1 : Nat) : Int)), (.int .i64 ((x.2 : Nat) : Int))])] rfl (by simp [Value.cells]) rfl (cs := [(.int .i64 ((x.1 : Nat) : Int)), (.int .i64 ((x.2 : Nat) : Int))]) rfl ?_)
        refine wl_op U rfl rfl (op_append1 U (H0 := _) (cs := dcs f) (ys := [(.int .i64 ((x.1 : Nat) : Int)), (.int .i64 ((x.2 : Nat) : Int))]) sl_57 rfl (by decide) rfl hF13.cur (fun hc => by have := (hF13.cur.lt hlt13 hc).2; omega) rfl rfl rfl (by omega) (one2 rfl rfl) (by rw [dcs_length]; omega) (by rw [dcs_length]; omega) ?_)
        intro wA HA NA hNA hslA hfrA hloA
        refine wr U ((ra U).to (v' := wA) rfl) rfl rfl ?_
        refine wz U ?_
        repeat (first|refine nt ?_|refine nq ?_)
        refine wc_own U fun hBNA hltA => ?_
        obtain ⟨cA, hcA1, hcA2, hcA3⟩ := hloA
        have hA : ∀ c, c < N12 → blkOf (.slice fp f.length fcap) ≠ some c → HA c = hset H12 N8 (.map (encM encD (dm trV (met ++ (f ++ [x]))))) c := fun c hc hne => (hfrA c (by omega) hne).trans (hsn (by omega))
        have hFA := hF13.pushf U hlt13 (by omega) hA hslA hcA1 (hcA3.imp id (by omega))
        have hfvn : ∀ c, c < N8 + 1 → blkOf (.slice fp f.length fcap) ≠ some c := fun c hc e => by have := hF12.clo c e; omega
        have hmA : HA N8 = some (.map (encM encD (dm trV (met ++ (f ++ [x]))))) := (hA _ (by omega) (hfvn _ (by omega))).trans hsy
        have hdA : HA b5 = _ := (hA b5 hb5B.2 hb5f).trans ((hn8 _ hb5n).trans hd12)
        have hsA : Sub H8 HA := hs12b.of fun c o hc => (hA c (by have := (hlt8 c o hc).2; omega) (hfvn c (by have := (hlt8 c o hc).2; omega))).trans (hn8 c (by have := (hlt8 c o hc).2; omega))
        obtain ⟨fp2, fk2, fcap2, rfl, hfk2, hfc2, hfp2⟩ := hFA.cur.form
        obtain rfl : fk2 = (f ++ [x]).length := by rw [dcs_length] at hfk2; omega
        repeat (first|refine nt ?_|refine nq ?_|refine wq U ?_)
        refine wg U ?_
        refine wr U (rd_load2 U el_56 rfl (v0 := (.int .i64 ((x.1 : Nat) : Int))) (v1 := (.int .i64 ((x.2 : Nat) : Int)))  (by rw [rrw U (by omega) hdA]; rfl) (by rw [rrw U (by omega) hdA]; rfl)) rfl rfl ?_
        refine wz U ?_
        repeat (first|refine nt ?_|refine nq ?_|refine wq U ?_)
        refine wg U ?_
        refine wl_op U rfl rfl (op_alloc U z_56 rfl ?_)
        refine wl_op0 U rfl (op_store U (vs := [(.int .i64 ((x.1 : Nat) : Int)), (.int .i64 ((x.2 : Nat) : Int))]) (cs := [(.int .i64 0), (.int .i64 0)]) el_56 rfl rfl rfl rfl (one2 rfl rfl) (by first|(rw [hsy]; done) | (rw [hsy]; rfl)) (by omega) (by simp) ?_)
        refine wz U ?_
        repeat (first|refine nt ?_|refine nq ?_)
        have hmds : H8 N2 = _ := hs38 _ _ hm3
        have hxds : x ∈ ds := (hds x).2 hadx
        have hNAf : ∀ c, c < NA → ∀ o1 o2, hset (hset HA NA o1) NA o2 c = HA c := fun c hc o1 o2 => (hsn (by omega)).trans (hsn (by omega))
        repeat (first|refine nt ?_|refine nq ?_|refine wq U ?_)
        refine wg U ?_
        refine wr U ((rm U).to (v' := (.map (some N2))) rfl) rfl rfl ?_
        refine wr U (rd_load2 U el_56 rfl (v0 := (.int .i64 ((x.1 : Nat) : Int))) (v1 := (.int .i64 ((x.2 : Nat) : Int)))  (by rw [rhq U (by omega)]; rfl) (by rw [rhq U (by omega)]; rfl)) rfl rfl ?_
        refine wr U ((rd_lookup U um_123 key_dart z_56 rfl (k := nD x) rfl (m := dm (nxV rs) ds) (.inl ((hNAf _ (by omega) _ _).trans (hsA _ _ hmds)))).to (v' := (.agg #[(.int .i64 (((nxtD rs x).1 : Nat) : Int)), (.int .i64 (((nxtD rs x).2 : Nat) : Int))])) (look_nx hxds _)) rfl rfl ?_
        refine wl_op0 U rfl (op_store U (vs := [(.int .i64 (((nxtD rs x).1 : Nat) : Int)), (.int .i64 (((nxtD rs x).2 : Nat) : Int))]) (cs := [(.int .i64 ((x.1 : Nat) : Int)), (.int .i64 ((x.2 : Nat) : Int))]) el_56 rfl rfl rfl rfl (one2 rfl rfl) (by first|(rw [hsy]; done) | (rw [hsy]; rfl)) (by omega) (by simp) ?_)
        refine wz U ?_
        repeat (first|refine nt ?_|refine nq ?_)
        refine ⟨2 * E.length + 1 - (f ++ [x]).length, by simp; omega, f ++ [x], nxtD rs x, fp2, fcap2, NA, rfl, by simp; omega, ⟨rfl, rfl, rfl, rfl, rfl, rfl, rfl, rfl, rfl, trivial⟩, .inr hW2, (hsn (by omega)).trans ((hNAf _ (by omega) _ _).trans hmA), hFA.at U hltA (fun c h1 h2 => (hsn (by omega)).trans (hNAf c h2 _ _)), hsy, (fun e => by have := (hFA.cur.lt hltA e).2; omega), by omega, hsA.of fun c o hc => (hsn (by have := (hlt8 c o hc).2; omega)).trans (hNAf c (by have := (hlt8 c o hc).2; omega) _ _), by omega⟩
    · replace hck := of_decide_eq_false hck
      refine wc_exit U ?_
      repeat (first|refine xt ?_|refine xps (by decide) ?_)
      refine xbl ?_
      repeat (first|refine nt ?_|refine nq ?_)
      have hkl : k = all.length := by omega
      repeat (first|refine nt ?_|refine nq ?_|refine wq U ?_)
      refine wg U ?_
      refine wr U ((rm U).to (v' := ov) rfl) rfl rfl ?_
      refine wr U ((ra U).to (v' := ov) rfl) rfl rfl ?_
      refine wr U ((ra U).to (v' := (.int .i64 0)) rfl) rfl rfl ?_
      refine wz U ?_
      refine wc_ret U ?_
      repeat (first|refine ret1 ?_|refine ret2 ?_)
      first|refine ret_scope ?_ | skip
      repeat (first|refine ret1 ?_|refine ret2 ?_)
      have hfin : facesL n E rs = fs := by have := hFI.eq; rw [hkl, List.drop_length] at this; simp only [facesO, List.append_nil] at this; rw [facesL, ← halle]; exact this
      exact end2 U (.inl rfl) rfl (v := ov) (v' := (.int .i64 0)) rfl rfl ⟨ov, rfl, by rw [hfin]; exact hFc.rd U (fun b o h => (hlt10 b o h).1), (hs13.trans hs38).trans hs10, by omega⟩
end Go.Proofs.YtdmodppoellbkaaGreat
namespace Go.Proofs.YtdmodppoellbkaaGreat
open Go Go.RowKit
variable (U : Cx)
def PlaneOk (n : Nat) (E : List NE) (rs : List (List Nat)) : Prop := Rot n E rs ∧ ∀ cs, Comps n E cs → ∀ c ∈ cs, eulP E (facesL n E rs) c = 2
theorem ints_set (l : List Int) (k : Nat) (x : Int) : (ints l).set (0 + k - 0) (.int .i64 x) = ints (l.set k x) := by rw [Nat.zero_add, Nat.sub_zero]; simp [ints, List.map_set]
theorem ints_set2 (l : List Int) (k : Nat) (x y : Int) : (ints (l.set k x)).set (0 + k - 0) (.int .i64 y) = ints (l.set k y) := by rw [ints_set, List.set_set]
theorem ints_rep (n : Nat) : List.replicate n (Value.int .i64 0) = ints (List.replicate n 0) := by simp [ints]
theorem ints_get? {l : List Int} {k : Nat} {x : Int} (h : l[k]? = some x) : (ints l)[k]? = some (.int .i64 x) := by simp [ints, h]
def baseI (c : List Nat) : Int := if c.length = 1 then 2 else (c.length : Int)
theorem map_getD (cs : List (List Nat)) (g : List Nat → Int) : ((List.range cs.length).map fun j => g (cs.getD j [])) = cs.map g := by
  apply List.ext_getElem?; intro i
  simp only [List.getElem?_map]
  rcases Nat.lt_or_ge i cs.length with h | h
  · simp [h, List.getD_eq_getElem?_getD]
  · simp [Nat.not_lt.2 h, h]
theorem map_upd {cs : List (List Nat)} {g g' : List Nat → Int} {i : Nat} (hi : i < cs.length) (h : ∀ j (hj : j < cs.length), j ≠ i → g' cs[j] = g cs[j]) : (cs.map g).set i (g' cs[i]) = cs.map g' := by
  apply List.ext_getElem?; intro j
  rw [List.getElem?_set]
  simp only [List.getElem?_map, List.length_map]
  by_cases hij : i = j
  · subst hij; simp [hi]
  · rw [if_neg hij]
    rcases Nat.lt_or_ge j cs.length with h1 | h1
    · simp [h1, h j h1 (Ne.symm hij)]
    · simp [h1]
theorem comp_only {n : Nat} {E : List NE} {cs : List (List Nat)} (h : Comps n E cs) {i j : Nat} (hi : i < cs.length) (hj : j < cs.length) {x : Nat} (hx : x ∈ cs[i]) (hne : j ≠ i) : x ∉ cs[j] := by
  rcases Nat.lt_trichotomy i j with h1 | h1 | h1
  · exact List.pairwise_iff_getElem.1 h.d i j hi hj h1 x hx
  · omega
  · exact fun hxj => List.pairwise_iff_getElem.1 h.d j i hj hi h1 x hxj hx
theorem edgeN_succ (E : List NE) (c : List Nat) {q : Nat} (h : q < E.length) : edgeN (E.take (q + 1)) c = edgeN (E.take q) c + (if E[q].1 ∈ c then 1 else 0) := by
  rw [edgeN, List.take_succ_eq_append_getElem h, List.filter_append, List.length_append, edgeN]
  congr 1
  by_cases hc : E[q].1 ∈ c <;> simp [hc]
theorem faceN_succ (fs : List (List ND)) (c : List Nat) {q : Nat} (h : q < fs.length) : faceN (fs.take (q + 1)) c = faceN (fs.take q) c + (if fst0 fs[q] ∈ c then 1 else 0) := by
  rw [faceN, List.take_succ_eq_append_getElem h, List.filter_append, List.length_append, faceN]
  congr 1
  by_cases hc : fst0 fs[q] ∈ c <;> simp [hc]
theorem edgeN_le (E : List NE) (c : List Nat) (q : Nat) : edgeN (E.take q) c ≤ E.length := Nat.le_trans (List.length_filter_le _ _) (by rw [List.length_take]; omega)
theorem faceN_le (fs : List (List ND)) (c : List Nat) (q : Nat) : faceN (fs.take q) c ≤ fs.length := Nat.le_trans (List.length_filter_le _ _) (by rw [List.length_take]; omega)
theorem facesL_len (n : Nat) (E : List NE) (rs : List (List Nat)) : (facesL n E rs).length ≤ n * n := by
  refine Nat.le_trans (facesO_len _ _) (Nat.le_trans (List.length_filter_le _ _) ?_)
  simp [pairsL]
theorem s31 (x : Int) (H : Hp) (N : Nat) : Spec U 31 #[(.int .i64 x)] H N (fun v H' N' => v = .bool (decide (x ≠ 2)) ∧ H = H' ∧ N = N') := by
  refine spa U pf_31 (m := 5) rfl rfl (by simp) fun hBN hlt => ?_
  obtain ⟨J, hJ⟩ := Has.ex (T := argsT #[(.int .i64 x)]) (l := [(0, (.int .i64 x))]) ⟨rfl, trivial⟩
  rw [hJ]; clear hJ
  repeat (first|refine nt ?_|refine nq ?_|refine wq U ?_)
  refine wg U ?_
  refine wr U ((ra U).to (v' := (.bool false)) rfl) rfl rfl ?_
  refine wz U ?_
  repeat (first|refine nt ?_|refine nq ?_|refine wq U ?_)
  refine wg U ?_
  refine wr U ((rm U).to (v' := (.int .i64 x)) rfl) rfl rfl ?_
  refine wr U (rd_neq U rfl rfl) rfl rfl ?_
  refine wr U ((ra U).to (v' := (.bool (decide (x ≠ 2)))) rfl) rfl rfl ?_
  refine wz U ?_
  refine wc_ret U ?_
  repeat (first|refine ret1 ?_|refine ret2 ?_)
  exact end1 U (.inl rfl) rfl (v := (.bool (decide (x ≠ 2)))) rfl ⟨rfl, rfl, rfl⟩
theorem s51 (xs : List Int) (sv : Value) (hall : ∀ x ∈ xs, x = 2) (hl : xs.length ≤ 100000) (H : Hp) (N : Nat) (hv : RdS U H sv 1 (ints xs)) : Spec U 51 #[sv, (.func (.func 31) #[] #[])] H N (fun v H' N' => v = .int .i64 (-1) ∧ H = H' ∧ N = N') := by
  obtain ⟨p, cap, rfl, hc, hp⟩ := hv.cells1 U
  rw [ints_length] at hc hp
  refine spa U pf_51 (m := 19) rfl rfl (by simp) fun hBN hlt => ?_
  obtain ⟨J, hJ⟩ := Has.ex (T := argsT #[(.slice p ((ints xs).length) cap), (.func (.func 31) #[] #[])]) (l := [(0, (.slice p ((ints xs).length) cap)), (1, (.func (.func 31) #[] #[]))]) ⟨rfl, rfl, trivial⟩
  rw [hJ]; clear hJ
  have hil := ints_length xs
  repeat (first|refine nt ?_|refine nq ?_|refine wq U ?_)
  refine wg U ?_
  refine wr U ((ra U).to (v' := (.int .i64 0)) rfl) rfl rfl ?_
  refine wz U ?_
  repeat (first|refine nt ?_|refine nq ?_|refine wq U ?_)
  refine wg U ?_
  refine wr U ((rm U).to (v' := (.slice p ((ints xs).length) cap)) rfl) rfl rfl ?_
  refine wr U ((rd_len' U sl_26 rfl).to (v' := (.int .i64 (((ints xs).length : Nat) : Int))) rfl) rfl rfl ?_
  refine wr U ((rm U).to (v' := (.int .i64 0)) rfl) rfl rfl ?_
  refine wz U ?_
  repeat (first|refine nt ?_|refine nq ?_|refine wq U ?_)
  refine wc_block U ?_
  refine wc_loop U (fun m T H' N' => ∃ (i : Nat), i ≤ xs.length ∧ m = xs.length - i ∧ Has T [(0, (.slice p ((ints xs).length) cap)), (1, (.func (.func 31) #[] #[])), (6, (.slice p ((ints xs).length) cap)), (7, (.int .i64 (((ints xs).length : Nat) : Int))), (8, (.int .i64 ((i : Nat) : Int)))] ∧ H = H' ∧ N = N') xs.length ⟨0, Nat.zero_le _, rfl, ⟨rfl, rfl, rfl, rfl, rfl, trivial⟩, rfl, rfl⟩ ?_
  rintro m T _ _ ⟨i, hi, rfl, hT, rfl, rfl⟩
  obtain ⟨J, rfl⟩ := hT.ex
  repeat (first|refine nt ?_|refine nq ?_|refine wq U ?_)
  refine wg U ?_
  refine wr U (rd_lss U rfl rfl) rfl rfl ?_
  refine wz U ?_
  repeat (first|refine nt ?_|refine nq ?_|refine wq U ?_)
  refine wcd U (t := (decide (((i : Nat) : Int) < (((ints xs).length : Nat) : Int)))) rfl (fun hck => ?_) fun hck => ?_
  · replace hck := of_decide_eq_true hck
    refine wsk U ?_
    repeat (first|refine nt ?_|refine nq ?_)
    have hi1 : i < xs.length := by omega
    obtain ⟨xb, xo, rfl⟩ := hp (by omega)
    repeat (first|refine nt ?_|refine nq ?_|refine wq U ?_)
    refine wc_block U ?_
    have hx2 := hall _ (List.getElem_mem hi1)
    repeat (first|refine nt ?_|refine nq ?_|refine wq U ?_)
    refine wg U ?_
    refine wr U ((rm U).to (v' := (.int .i64 ((i : Nat) : Int))) rfl) rfl rfl ?_
    refine wr U ((ra U).to (v' := (.int .i64 ((i : Nat) : Int))) rfl) rfl rfl ?_
    refine wz U ?_
    repeat (first|refine nt ?_|refine nq ?_|refine wq U ?_)
    refine wg U ?_
    refine wr U ((rm U).to (v' := (.func (.func 31) #[] #[])) rfl) rfl rfl ?_
    refine wr U ((rm U).to (v' := (.slice (some ⟨xb, xo, none⟩) ((ints xs).length) cap)) rfl) rfl rfl ?_
    refine wr U ((rm U).to (v' := (.int .i64 ((i : Nat) : Int))) rfl) rfl rfl ?_
    refine wr U (rd_idx1 U (j := i) sl_26 rfl rfl (by omega)) rfl rfl ?_
    refine wr U (rl1 U el_3 rfl (v := (.int .i64 (xs[i]))) (hv.get U (ints_get hi1))) rfl rfl ?_
    refine wl_op U rfl rfl (op_call U Tryz.f31 rfl rfl pf_31 (by kernel_rfl) (by kernel_rfl) ((s31 U xs[i] H N).mono U ?_))
    rintro _ _ _ ⟨rfl, rfl, rfl⟩
    refine wz U ?_
    repeat (first|refine nt ?_|refine nq ?_|refine wq U ?_)
    refine wcd U (t := false) (congrArg Value.bool (decide_eq_false (fun h => h hx2))) (fun h => nomatch h) fun _ => ?_
    refine wsk U ?_
    repeat (first|refine nt ?_|refine nq ?_)
    repeat (first|refine nt ?_|refine nq ?_|refine wq U ?_)
    refine wg U ?_
    refine wr U (rd_add U rfl rfl (by omega) (by omega)) rfl rfl ?_
    refine wr U ((rm U).to (v' := (.int .i64 (((i : Nat) : Int) + 1))) rfl) rfl rfl ?_
    refine wz U ?_
    repeat (first|refine nt ?_|refine nq ?_)
    exact ⟨xs.length - (i + 1), by omega, i + 1, by omega, rfl, ⟨rfl, rfl, rfl, rfl, rfl, trivial⟩, rfl, rfl⟩
  · replace hck := of_decide_eq_false hck
    refine wc_exit U ?_
    repeat (first|refine xt ?_|refine xps (by decide) ?_)
    refine xbl ?_
    repeat (first|refine nt ?_|refine nq ?_)
    repeat (first|refine nt ?_|refine nq ?_|refine wq U ?_)
    refine wg U ?_
    refine wr U ((ra U).to (v' := (.int .i64 (-1))) rfl) rfl rfl ?_
    refine wz U ?_
    refine wc_ret U ?_
    repeat (first|refine ret1 ?_|refine ret2 ?_)
    exact end1 U (.inl rfl) rfl (v := (.int .i64 (-1))) rfl ⟨rfl, rfl, rfl⟩
theorem s30 (xs : List Int) (sv : Value) (hall : ∀ x ∈ xs, x = 2) (hl : xs.length ≤ 100000) (H : Hp) (N : Nat) (hv : RdS U H sv 1 (ints xs)) : Spec U 30 #[sv, (.func (.func 31) #[] #[])] H N (fun v H' N' => v = .bool false ∧ H = H' ∧ N = N') := by
  refine spa U pf_30 (m := 9) rfl rfl (by simp) fun hBN hlt => ?_
  obtain ⟨J, hJ⟩ := Has.ex (T := argsT #[sv, (.func (.func 31) #[] #[])]) (l := [(0, sv), (1, (.func (.func 31) #[] #[]))]) ⟨rfl, rfl, trivial⟩
  rw [hJ]; clear hJ
  repeat (first|refine nt ?_|refine nq ?_|refine wq U ?_)
  refine wg U ?_
  refine wr U ((ra U).to (v' := (.bool false)) rfl) rfl rfl ?_
  refine wz U ?_
  repeat (first|refine nt ?_|refine nq ?_|refine wq U ?_)
  refine wg U ?_
  refine wr U ((rm U).to (v' := sv) rfl) rfl rfl ?_
  refine wr U ((rm U).to (v' := (.func (.func 31) #[] #[])) rfl) rfl rfl ?_
  refine wl_op U rfl rfl (op_call U Tryz.f51 rfl rfl pf_51 (by kernel_rfl) (by kernel_rfl) ((s51 U xs sv hall hl H N hv).mono U ?_))
  rintro _ _ _ ⟨rfl, rfl, rfl⟩
  refine wr U ((rd_geq U rfl rfl).to (v' := (.bool false)) rfl) rfl rfl ?_
  refine wr U ((ra U).to (v' := (.bool false)) rfl) rfl rfl ?_
  refine wz U ?_
  refine wc_ret U ?_
  repeat (first|refine ret1 ?_|refine ret2 ?_)
  exact end1 U (.inl rfl) rfl (v := (.bool false)) rfl ⟨rfl, rfl, rfl⟩
theorem s29 (n : Nat) (E : List NE) (sv rv : Value) (rs : List (List Nat)) (hg : GOk n E) (hR : Rot n E rs) (H : Hp) (N : Nat) (hv : RdS U H sv 3 (necs E)) (hr : Rd2 U H rv rs) : Spec U 29 #[(.agg #[(.int .i64 ((n : Nat) : Int)), sv]), rv] H N (fun v H' N' => ∃ ov cs, v = .tuple #[ov, .int .i64 0] ∧ Comps n E cs ∧ RdS U H' ov 1 (ints (cs.map (eulP E (facesL n E rs)))) ∧ Sub H H' ∧ N ≤ N') := by
  obtain ⟨p, cap, rfl, hc, hp⟩ := hv.edges U
  refine spa U pf_29 (m := 104) rfl rfl (by simp) fun hBN hlt => ?_
  obtain ⟨J, hJ⟩ := Has.ex (T := argsT #[(.agg #[(.int .i64 ((n : Nat) : Int)), (.slice p E.length cap)]), rv]) (l := [(0, (.agg #[(.int .i64 ((n : Nat) : Int)), (.slice p E.length cap)])), (1, rv)]) ⟨rfl, rfl, trivial⟩
  rw [hJ]; clear hJ
  have hn := hg.hn; have hm := hg.hm
  repeat (first|refine nt ?_|refine nq ?_|refine wq U ?_)
  refine wg U ?_
  refine wl_op U rfl rfl (op_box U rfl rfl ?_)
  refine wr U ((ra U).to (v' := (.slice none 0 0)) rfl) rfl rfl ?_
  refine wr U ((ra U).to (v' := (.int .i64 0)) rfl) rfl rfl ?_
  refine wz U ?_
  repeat (first|refine nt ?_|refine nq ?_)
  refine wc_gen U (fun R => R N = some (.row 24 0 [(.int .i64 ((n : Nat) : Int)), (.slice p E.length cap)] 2) ∧ Sub _ R) ⟨(by first|(rw [hsy]; done) | (rw [hsy]; rfl)), ((Sub.refl _).hset (fresh hlt (by omega)))⟩ ?_
  rintro H1 ⟨hx_1, hs1⟩ hBNH1 hltH1
  repeat (first|refine nt ?_|refine nq ?_|refine wq U ?_)
  refine wg U ?_
  refine wr U (rd_load2 U el_24 rfl (v0 := (.int .i64 ((n : Nat) : Int))) (v1 := (.slice p E.length cap))  (by rw [rrw U (by omega) hx_1]; rfl) (by rw [rrw U (by omega) hx_1]; rfl)) rfl rfl ?_
  refine wr U ((rm U).to (v' := rv) rfl) rfl rfl ?_
  refine wl_op U rfl rfl (op_call U Tryz.f50 rfl rfl pf_50 (by kernel_rfl) (by kernel_rfl) ((s50 U n E _ rv rs hg hR _ _ (hv.sub U hs1) (hr.sub U hs1)).mono U ?_))
  rintro _ H2 N2 hq
  obtain ⟨fv, rfl, hfr, hs2, hN2⟩ := hq
  have hx_2 := hs2 N _ hx_1
  have hs_3 := (Sub.refl _).trans hs2
  refine wr U ((rm U).to (v' := (.tuple #[fv, (.int .i64 0)])) rfl) rfl rfl ?_
  refine wr U ((rd_extract U rfl rfl).to (v' := fv) rfl) rfl rfl ?_
  refine wr U ((rd_extract U rfl rfl).to (v' := (.int .i64 0)) rfl) rfl rfl ?_
  refine wr U ((ra U).to (v' := fv) rfl) rfl rfl ?_
  refine wr U ((ra U).to (v' := (.int .i64 0)) rfl) rfl rfl ?_
  refine wz U ?_
  repeat (first|refine nt ?_|refine nq ?_|refine wq U ?_)
  refine wg U ?_
  refine wr U ((rm U).to (v' := (.int .i64 0)) rfl) rfl rfl ?_
  refine wr U ((rd_neq U rfl rfl).to (v' := (.bool false)) rfl) rfl rfl ?_
  refine wz U ?_
  repeat (first|refine nt ?_|refine nq ?_|refine wq U ?_)
  refine wcd U (t := false) rfl (fun h => nomatch h) fun _ => ?_
  refine wsk U ?_
  repeat (first|refine nt ?_|refine nq ?_)
  have hs12 := hs1.trans hs2
  refine wc_own U fun hBN2 hlt2 => ?_
  obtain ⟨fs, hfs⟩ : ∃ l, facesL n E rs = l := ⟨_, rfl⟩
  have hfl := facesL_len n E rs
  have hfh : ∀ f ∈ fs, ∃ d g, f = d :: g ∧ d.1 < n := fun f hf => by rw [← hfs] at hf; obtain ⟨d, g, h1, h2⟩ := facesO_head _ _ f hf; exact ⟨d, g, h1, (mem_pairsL.1 (List.mem_filter.1 h2).1).1⟩
  rw [hfs] at hfr hfl ⊢
  have hfl2 : fs.length ≤ 4096 := Nat.le_trans hfl (Nat.mul_le_mul hn hn)
  obtain ⟨fus, hfu, hful, hfus⟩ := hfr
  obtain ⟨fp, fk, fcap, rfl, hfc, hfk, hfp⟩ := hfu.out U
  obtain rfl : fk = fs.length := by omega
  repeat (first|refine nt ?_|refine nq ?_|refine wq U ?_)
  refine wg U ?_
  refine wr U ((rfa U fb_24_0 rfl).to (v' := (.pointer (some ⟨N, 0, none⟩))) rfl) rfl rfl ?_
  refine wr U (rl1 U el_3 rfl (v := (.int .i64 ((n : Nat) : Int))) (by rw [rrw U (by omega) hx_2]; rfl)) rfl rfl ?_
  refine wl_op U rfl rfl (op_makeSlice U (m := n) (v := .int .i64 0) sl_26 rfl rfl rfl (by omega) (by omega) ?_)
  refine wr U ((ra U).to (v' := (.slice (some ⟨N2, 0, none⟩) n n)) rfl) rfl rfl ?_
  refine wz U ?_
  repeat (first|refine nt ?_|refine nq ?_)
  refine wc_gen U (fun R => R N2 = some (.row 3 0 (nats (List.replicate n 0)) n) ∧ Sub H2 R) ⟨by rw [← nats_rep]; exact hsy, (Sub.refl H2).hset (fresh hlt2 (by omega))⟩ ?_
  rintro H3 ⟨hof3, hs3⟩ hBN3 hlt3
  have hbx3 : H3 N = _ := hs3 _ _ (hs2 _ _ hx_1)
  have hNB : U.B ≤ N := hBN
  repeat (first|refine nt ?_|refine nq ?_|refine wq U ?_)
  refine wg U ?_
  refine wr U (rd_load2 U el_24 rfl (v0 := (.int .i64 ((n : Nat) : Int))) (v1 := (.slice p E.length cap))  (by rw [rrw U (by omega) hbx3]; rfl) (by rw [rrw U (by omega) hbx3]; rfl)) rfl rfl ?_
  refine wl_op U rfl rfl (op_call U Tryz.f36 rfl rfl pf_36 (by kernel_rfl) (by kernel_rfl) ((s36h U n E _ hg H3 (N2 + 1) (hv.sub U (hs12.trans hs3))).mono U ?_))
  rintro cv H4 N4 hq2
  obtain ⟨cs, hcs, hrd0, hs4, hN4⟩ := hq2
  have hrd := hrd0.sub U (show Sub (hiH (N2 + 1) H4) (hdel H4 N2) from fun c o h => by unfold hiH at h; split at h; cases h; rw [hdel_ne (by omega)]; exact h)
  obtain ⟨cp, ccap, cus, rfl, hcp, hcu, hcus⟩ := hrd.open U
  refine wl_own U fun hBN4 hlt4 => ?_
  refine wr U ((ra U).to (v' := (.slice cp cs.length ccap)) rfl) rfl rfl ?_
  refine wz U ?_
  have hcl := comps_len hcs; have hcul := hcus.1
  repeat (first|refine nt ?_|refine nq ?_|refine wq U ?_)
  refine wg U ?_
  refine wr U ((rm U).to (v' := (.slice cp cs.length ccap)) rfl) rfl rfl ?_
  refine wr U ((rd_len' U sl_25 rfl).to (v' := (.int .i64 ((cs.length : Nat) : Int))) rfl) rfl rfl ?_
  refine wl_op U rfl rfl (op_makeSlice U (m := cs.length) (v := .int .i64 0) sl_26 rfl rfl rfl (by omega) (by omega) ?_)
  refine wr U ((ra U).to (v' := (.slice (some ⟨N4, 0, none⟩) cs.length cs.length)) rfl) rfl rfl ?_
  refine wz U ?_
  repeat (first|refine nt ?_|refine nq ?_)
  obtain ⟨bf, hbf⟩ : ∃ f : Nat → Int, (fun j => baseI (cs.getD j [])) = f := ⟨_, rfl⟩
  have hbfe : ∀ (j : Nat) (hj : j < cs.length), bf j = baseI cs[j] := fun j hj => by rw [← hbf]; simp [List.getD_eq_getElem?_getD, hj]
  have hlow4 : Sub (hdel H4 N2) (hset H4 N4 (.row 3 0 (List.replicate cs.length (.int .i64 0)) cs.length)) := fun c o h => by unfold hdel at h; split at h; cases h; rw [hsn (by have := (hlt4 c o h).2; omega)]; exact h
  refine wc_gen U (fun R => R N2 = some (.row 3 0 (nats (List.replicate n 0)) n) ∧ R N4 = some (.row 3 0 (ints (upT bf 0 cs.length 0)) cs.length) ∧ Sub (hdel H4 N2) R) ⟨(hsn (by omega)).trans (hs4 _ _ hof3), by rw [upT_zero, ← ints_rep]; exact hsy, hlow4⟩ ?_
  rintro H5 ⟨hof5, hou5, hs5⟩ hBN5 hlt5
  have hD : ∀ c o, hdel H4 N2 c = some o → c < N4 ∧ c ≠ N2 := fun c o h => by unfold hdel at h; split at h; cases h; rename_i e; exact ⟨(hlt4 c o h).2, e⟩
  have h2D : Sub H2 (hdel H4 N2) := fun c o h => by rw [hdel_ne (by have := (hlt2 c o h).2; omega)]; exact hs4 c o (hs3 c o h)
  repeat (first|refine nt ?_|refine nq ?_|refine wq U ?_)
  refine wg U ?_
  refine wr U ((rm U).to (v' := (.slice cp cs.length ccap)) rfl) rfl rfl ?_
  refine wr U ((rd_len' U sl_25 rfl).to (v' := (.int .i64 ((cs.length : Nat) : Int))) rfl) rfl rfl ?_
  refine wr U ((rm U).to (v' := (.int .i64 0)) rfl) rfl rfl ?_
  refine wz U ?_
  repeat (first|refine nt ?_|refine nq ?_|refine wq U ?_)
  refine wc_block U ?_
  refine wc_loop U (fun m T H' N' => ∃ (i : Nat) (of_ : List Nat), i ≤ cs.length ∧ m = cs.length - i ∧ Has T [(2, (.pointer (some ⟨N, 0, none⟩))), (6, (.slice fp fs.length fcap)), (8, (.slice (some ⟨N2, 0, none⟩) n n)), (9, (.slice cp cs.length ccap)), (10, (.slice (some ⟨N4, 0, none⟩) cs.length cs.length)), (36, (.slice cp cs.length ccap)), (37, (.int .i64 ((cs.length : Nat) : Int))), (38, (.int .i64 ((i : Nat) : Int)))] ∧ H' N2 = some (.row 3 0 (nats of_) n) ∧ of_.length = n ∧ Sub (hdel H4 N2) H' ∧ N4 + 1 = N' ∧ H' N4 = some (.row 3 0 (ints (upT bf 0 cs.length i)) cs.length) ∧ (∀ (j : Nat) (hj : j < cs.length), j < i → ∀ v ∈ cs[j], of_[v]? = some j)) cs.length ⟨0, List.replicate n 0, Nat.zero_le _, rfl, ⟨rfl, rfl, rfl, rfl, rfl, rfl, rfl, rfl, trivial⟩, hof5, by simp, hs5, rfl, hou5, fun j hj h => by omega⟩ ?_
  clear hof5 hou5 hs5
  rintro m T H6 _ ⟨i, of_, hi, rfl, hT, hof6, hol, hs6, rfl, hou6, hofv⟩
  obtain ⟨J, rfl⟩ := hT.ex
  repeat (first|refine nt ?_|refine nq ?_|refine wq U ?_)
  refine wg U ?_
  refine wr U (rd_lss U rfl rfl) rfl rfl ?_
  refine wz U ?_
  repeat (first|refine nt ?_|refine nq ?_|refine wq U ?_)
  refine wcd U (t := (decide (((i : Nat) : Int) < ((cs.length : Nat) : Int)))) rfl (fun hck => ?_) fun hck => ?_
  · replace hck := of_decide_eq_true hck
    refine wsk U ?_
    repeat (first|refine nt ?_|refine nq ?_)
    have hi1 : i < cs.length := by omega
    obtain ⟨cb, co, rfl⟩ := hcp (by omega)
    repeat (first|refine nt ?_|refine nq ?_|refine wq U ?_)
    refine wc_block U ?_
    obtain ⟨xu, hxu⟩ := get_ex (l := cus) (i := i) (by omega)
    obtain ⟨xs, hxs⟩ : ∃ c, cs[i] = c := ⟨_, rfl⟩
    have hxs2 : cs[i]? = some xs := by rw [List.getElem?_eq_getElem hi1, hxs]
    have hxm : xs ∈ cs := List.mem_of_getElem? hxs2
    have hxlt := hcs.lt xs hxm
    have hxln := nodup_len n xs ((hcs.c xs hxm).1.imp Nat.ne_of_lt) hxlt
    have hxr := hcus.2 i xu xs hxu hxs2
    obtain ⟨xp, xcap, rfl, hxc, hxp⟩ := hxr.nums U
    have hbi : bf i = baseI xs := by rw [hbfe i hi1, hxs]
    repeat (first|refine nt ?_|refine nq ?_|refine wq U ?_)
    refine wg U ?_
    refine wr U ((rm U).to (v' := (.int .i64 ((i : Nat) : Int))) rfl) rfl rfl ?_
    refine wr U (rd_idx1 U (j := i) sl_25 rfl rfl hi1) rfl rfl ?_
    refine wr U (rl1 U el_26 rfl (v := (.slice xp xs.length xcap)) ((hcu.sub U hs6).get U hxu)) rfl rfl ?_
    refine wr U ((ra U).to (v' := (.int .i64 ((i : Nat) : Int))) rfl) rfl rfl ?_
    refine wr U ((ra U).to (v' := (.slice xp xs.length xcap)) rfl) rfl rfl ?_
    refine wz U ?_
    repeat (first|refine nt ?_|refine nq ?_|refine wq U ?_)
    refine wg U ?_
    refine wr U ((rm U).to (v' := (.slice (some ⟨N4, 0, none⟩) cs.length cs.length)) rfl) rfl rfl ?_
    refine wr U ((rm U).to (v' := (.int .i64 ((i : Nat) : Int))) rfl) rfl rfl ?_
    refine wr U ((rm U).to (v' := (.slice xp xs.length xcap)) rfl) rfl rfl ?_
    refine wr U ((rd_len' U sl_26 rfl).to (v' := (.int .i64 ((xs.length : Nat) : Int))) rfl) rfl rfl ?_
    refine wr U (rd_idx1 U (j := i) sl_26 rfl rfl hi1) rfl rfl ?_
    refine wl_op0 U rfl (op_store1 U el_3 rfl rfl rfl rfl hou6 (by omega) (by rw [ints_length, upT_length]; omega) ?_)
    refine wz U ?_
    repeat (first|refine nt ?_|refine nq ?_)
    refine wc_gen U (fun R => R N2 = some (.row 3 0 (nats of_) n) ∧ R N4 = some (.row 3 0 (ints ((upT bf 0 cs.length i).set i ((xs.length : Nat) : Int))) cs.length) ∧ Sub (hdel H4 N2) R) ⟨(hsn (by omega)).trans hof6, by rw [← ints_set]; exact hsy, hs6.of fun c o h => hsn (by have := (hD c o h).1; omega)⟩ ?_
    rintro H7 ⟨hof7, hou7, hs7⟩ hBN7 hlt7
    repeat (first|refine nt ?_|refine nq ?_|refine wq U ?_)
    refine wg U ?_
    refine wr U ((rm U).to (v' := (.slice xp xs.length xcap)) rfl) rfl rfl ?_
    refine wr U ((rd_len' U sl_26 rfl).to (v' := (.int .i64 ((xs.length : Nat) : Int))) rfl) rfl rfl ?_
    refine wr U (rd_eql U rfl rfl) rfl rfl ?_
    refine wz U ?_
    repeat (first|refine nt ?_|refine nq ?_)
    repeat (first|refine nt ?_|refine nq ?_|refine wq U ?_)
    refine wc_mid U (fun T' H' N' => Has T' [(2, (.pointer (some ⟨N, 0, none⟩))), (6, (.slice fp fs.length fcap)), (8, (.slice (some ⟨N2, 0, none⟩) n n)), (9, (.slice (some ⟨cb, co, none⟩) cs.length ccap)), (10, (.slice (some ⟨N4, 0, none⟩) cs.length cs.length)), (11, (.int .i64 ((i : Nat) : Int))), (12, (.slice xp xs.length xcap)), (36, (.slice (some ⟨cb, co, none⟩) cs.length ccap)), (37, (.int .i64 ((cs.length : Nat) : Int))), (38, (.int .i64 ((i : Nat) : Int)))] ∧ H' N2 = some (.row 3 0 (nats of_) n) ∧ H' N4 = some (.row 3 0 (ints (upT bf 0 cs.length (i + 1))) cs.length) ∧ Sub (hdel H4 N2) H' ∧ N4 + 1 = N') ?_ ?_
    · skip
      repeat (first|refine nt ?_|refine nq ?_|refine wq U ?_)
      refine wcd U (t := (decide (((xs.length : Nat) : Int) = 1))) rfl (fun h1 => ?_) fun h1 => ?_
      · replace h1 := of_decide_eq_true h1
        have hb2 : bf i = 2 := by rw [hbi]; unfold baseI; rw [if_pos (by omega)]
        repeat (first|refine nt ?_|refine nq ?_|refine wq U ?_)
        refine wg U ?_
        refine wr U ((rm U).to (v' := (.slice (some ⟨N4, 0, none⟩) cs.length cs.length)) rfl) rfl rfl ?_
        refine wr U ((rm U).to (v' := (.int .i64 ((i : Nat) : Int))) rfl) rfl rfl ?_
        refine wr U (rd_idx1 U (j := i) sl_26 rfl rfl hi1) rfl rfl ?_
        refine wl_op0 U rfl (op_store1 U el_3 rfl rfl rfl rfl hou7 (by omega) (by rw [ints_length, List.length_set, upT_length]; omega) ?_)
        refine wz U ?_
        refine ⟨rfl, ⟨rfl, rfl, rfl, rfl, rfl, rfl, rfl, rfl, rfl, rfl, trivial⟩, (hsn (by omega)).trans hof7, ?_, hs7.of fun c o h => hsn (by have := (hD c o h).1; omega), rfl⟩
        rw [← upT_set bf 0 hi1, hb2, ← ints_set2 _ i ((xs.length : Nat) : Int) 2]; exact hsy
      · replace h1 := of_decide_eq_false h1
        have hb2 : bf i = ((xs.length : Nat) : Int) := by rw [hbi]; unfold baseI; rw [if_neg (by omega)]
        refine wsk U ?_
        exact ⟨rfl, ⟨rfl, rfl, rfl, rfl, rfl, rfl, rfl, rfl, rfl, rfl, trivial⟩, hof7, by rw [← upT_set bf 0 hi1, hb2]; exact hou7, hs7, rfl⟩
    rintro T8 H8 _ ⟨hT8, hof8, hou8, hs8, rfl⟩
    obtain ⟨J8, rfl⟩ := hT8.ex
    repeat (first|refine nt ?_|refine nq ?_)
    repeat (first|refine nt ?_|refine nq ?_|refine wq U ?_)
    refine wg U ?_
    refine wr U ((rm U).to (v' := (.slice xp xs.length xcap)) rfl) rfl rfl ?_
    refine wr U ((rd_len' U sl_26 rfl).to (v' := (.int .i64 ((xs.length : Nat) : Int))) rfl) rfl rfl ?_
    refine wr U ((rm U).to (v' := (.int .i64 0)) rfl) rfl rfl ?_
    refine wz U ?_
    repeat (first|refine nt ?_|refine nq ?_|refine wq U ?_)
    refine wc_block U ?_
    refine wc_loop U (fun m T H' N' => ∃ (j : Nat) (of_ : List Nat), j ≤ xs.length ∧ m = xs.length - j ∧ Has T [(2, (.pointer (some ⟨N, 0, none⟩))), (6, (.slice fp fs.length fcap)), (8, (.slice (some ⟨N2, 0, none⟩) n n)), (9, (.slice (some ⟨cb, co, none⟩) cs.length ccap)), (10, (.slice (some ⟨N4, 0, none⟩) cs.length cs.length)), (11, (.int .i64 ((i : Nat) : Int))), (12, (.slice xp xs.length xcap)), (36, (.slice (some ⟨cb, co, none⟩) cs.length ccap)), (37, (.int .i64 ((cs.length : Nat) : Int))), (38, (.int .i64 ((i : Nat) : Int))), (54, (.slice xp xs.length xcap)), (55, (.int .i64 ((xs.length : Nat) : Int))), (56, (.int .i64 ((j : Nat) : Int)))] ∧ H' N2 = some (.row 3 0 (nats of_) n) ∧ of_.length = n ∧ H' N4 = some (.row 3 0 (ints (upT bf 0 cs.length (i + 1))) cs.length) ∧ Sub (hdel H4 N2) H' ∧ N4 + 1 = N' ∧ (∀ (j : Nat) (hj : j < cs.length), j < i → ∀ v ∈ cs[j], of_[v]? = some j) ∧ (∀ v ∈ xs.take j, of_[v]? = some i)) xs.length ⟨0, of_, Nat.zero_le _, rfl, ⟨rfl, rfl, rfl, rfl, rfl, rfl, rfl, rfl, rfl, rfl, rfl, rfl, rfl, trivial⟩, hof8, hol, hou8, hs8, rfl, hofv, by simp⟩ ?_
    clear hof8 hou8 hs8 hof7 hou7 hs7 hof6 hou6 hs6 hol hofv
    rintro m T H9 _ ⟨j, of_, hj, rfl, hT, hof9, hol, hou9, hs9, rfl, hofv, hofj⟩
    obtain ⟨J9, rfl⟩ := hT.ex
    repeat (first|refine nt ?_|refine nq ?_|refine wq U ?_)
    refine wg U ?_
    refine wr U (rd_lss U rfl rfl) rfl rfl ?_
    refine wz U ?_
    repeat (first|refine nt ?_|refine nq ?_|refine wq U ?_)
    refine wcd U (t := (decide (((j : Nat) : Int) < ((xs.length : Nat) : Int)))) rfl (fun hcj => ?_) fun hcj => ?_
    · replace hcj := of_decide_eq_true hcj
      refine wsk U ?_
      repeat (first|refine nt ?_|refine nq ?_)
      have hj1 : j < xs.length := by omega
      obtain ⟨xb, xo, rfl⟩ := hxp (by omega)
      repeat (first|refine nt ?_|refine nq ?_|refine wq U ?_)
      refine wc_block U ?_
      have hvn : xs[j] < n := hxlt _ (List.getElem_mem hj1)
      repeat (first|refine nt ?_|refine nq ?_|refine wq U ?_)
      refine wg U ?_
      refine wr U (rd_idx1 U (j := j) sl_26 rfl rfl (by omega)) rfl rfl ?_
      refine wr U (rl1 U el_3 rfl (v := (.int .i64 ((xs[j] : Nat) : Int))) ((hxr.sub U hs9).n0 U hj1)) rfl rfl ?_
      refine wr U ((ra U).to (v' := (.int .i64 ((xs[j] : Nat) : Int))) rfl) rfl rfl ?_
      refine wz U ?_
      repeat (first|refine nt ?_|refine nq ?_|refine wq U ?_)
      refine wg U ?_
      refine wr U ((rm U).to (v' := (.slice (some ⟨N2, 0, none⟩) n n)) rfl) rfl rfl ?_
      refine wr U ((rm U).to (v' := (.int .i64 ((xs[j] : Nat) : Int))) rfl) rfl rfl ?_
      refine wr U ((rm U).to (v' := (.int .i64 ((i : Nat) : Int))) rfl) rfl rfl ?_
      refine wr U (rd_idx1 U (j := xs[j]) sl_26 rfl rfl hvn) rfl rfl ?_
      refine wl_op0 U rfl (op_store1 U el_3 rfl rfl rfl rfl hof9 (by omega) (by rw [nats_length]; omega) ?_)
      refine wz U ?_
      repeat (first|refine nt ?_|refine nq ?_)
      repeat (first|refine nt ?_|refine nq ?_|refine wq U ?_)
      refine wg U ?_
      refine wr U (rd_add U rfl rfl (by omega) (by omega)) rfl rfl ?_
      refine wr U ((rm U).to (v' := (.int .i64 (((j : Nat) : Int) + 1))) rfl) rfl rfl ?_
      refine wz U ?_
      repeat (first|refine nt ?_|refine nq ?_)
      refine ⟨xs.length - (j + 1), by omega, j + 1, of_.set xs[j] i, by omega, rfl, ⟨rfl, rfl, rfl, rfl, rfl, rfl, rfl, rfl, rfl, rfl, rfl, rfl, rfl, trivial⟩, by rw [← nats_set]; exact hsy, by simp [hol], (hsn (by omega)).trans hou9, hs9.of fun c o h => hsn (hD c o h).2, rfl, ?_, ?_⟩
      · intro j2 hj2 hlt2 v hv2; rw [List.getElem?_set]; split
        · rename_i he; exact absurd (he ▸ hv2) (comp_only hcs hi1 hj2 (by rw [hxs]; exact List.getElem_mem hj1) (by omega))
        · exact hofv j2 hj2 hlt2 v hv2
      · intro v hv2; rw [List.getElem?_set]; split
        · rw [if_pos (by omega)]
        · rename_i he; rw [List.take_succ_eq_append_getElem hj1, List.mem_append, List.mem_singleton] at hv2; rcases hv2 with h | h; exact hofj v h; exact absurd h.symm he
    · replace hcj := of_decide_eq_false hcj
      refine wc_exit U ?_
      repeat (first|refine xt ?_|refine xps (by decide) ?_)
      refine xbl ?_
      repeat (first|refine nt ?_|refine nq ?_)
      rw [List.take_of_length_le (by omega)] at hofj
      repeat (first|refine nt ?_|refine nq ?_|refine wq U ?_)
      refine wg U ?_
      refine wr U (rd_add U rfl rfl (by omega) (by omega)) rfl rfl ?_
      refine wr U ((rm U).to (v' := (.int .i64 (((i : Nat) : Int) + 1))) rfl) rfl rfl ?_
      refine wz U ?_
      repeat (first|refine nt ?_|refine nq ?_)
      refine ⟨cs.length - (i + 1), by omega, i + 1, of_, by omega, rfl, ⟨rfl, rfl, rfl, rfl, rfl, rfl, rfl, rfl, trivial⟩, hof9, hol, hs9, rfl, hou9, fun j hj2 hlt2 v hv2 => ?_⟩
      rcases Nat.lt_or_ge j i with h3 | h3
      · exact hofv j hj2 h3 v hv2
      · obtain rfl : j = i := by omega
        exact hofj v (by rw [← hxs]; exact hv2)
  · replace hck := of_decide_eq_false hck
    refine wc_exit U ?_
    repeat (first|refine xt ?_|refine xps (by decide) ?_)
    refine xbl ?_
    repeat (first|refine nt ?_|refine nq ?_)
    have hil : i = cs.length := by omega
    rw [hil, upT_all, ← hbf, map_getD] at hou6
    have hofa : ∀ x, x < n → ∃ (j : Nat) (hj : j < cs.length), x ∈ cs[j] ∧ of_[x]? = some j := fun x hx => by
      obtain ⟨c, hc, hxc⟩ := hcs.all x hx
      obtain ⟨j, hj, rfl⟩ := List.mem_iff_getElem.1 hc
      exact ⟨j, hj, hxc, hofv j hj (by omega) x hxc⟩
    have hbase : ∀ c ∈ cs, 0 ≤ baseI c ∧ baseI c ≤ 66 := fun c hc => by have := nodup_len n c ((hcs.c c hc).1.imp Nat.ne_of_lt) (hcs.lt c hc); unfold baseI; split <;> omega
    have hbxD : hdel H4 N2 N = _ := (hdel_ne (by omega)).trans (hs4 _ _ hbx3)
    repeat (first|refine nt ?_|refine nq ?_|refine wq U ?_)
    refine wg U ?_
    refine wr U ((rfa U fb_24_1 rfl).to (v' := (.pointer (some ⟨N, 1, none⟩))) rfl) rfl rfl ?_
    refine wr U (rl1 U el_22 rfl (v := (.slice p E.length cap)) (by rw [rrw U (by omega) (hs6 _ _ hbxD)]; rfl)) rfl rfl ?_
    refine wr U ((rd_len' U sl_22 rfl).to (v' := (.int .i64 ((E.length : Nat) : Int))) rfl) rfl rfl ?_
    refine wr U ((rm U).to (v' := (.int .i64 0)) rfl) rfl rfl ?_
    refine wz U ?_
    repeat (first|refine nt ?_|refine nq ?_|refine wq U ?_)
    refine wc_block U ?_
    obtain ⟨g2, hg2⟩ : ∃ g : Nat → List Nat → Int, (fun q c => baseI c - ((edgeN (E.take q) c : Nat) : Int)) = g := ⟨_, rfl⟩
    have hg2e : ∀ q c, g2 q c = baseI c - ((edgeN (E.take q) c : Nat) : Int) := fun q c => by rw [← hg2]
    refine wc_loop U (fun m T H' N' => ∃ (q : Nat), q ≤ E.length ∧ m = E.length - q ∧ Has T [(2, (.pointer (some ⟨N, 0, none⟩))), (6, (.slice fp fs.length fcap)), (8, (.slice (some ⟨N2, 0, none⟩) n n)), (10, (.slice (some ⟨N4, 0, none⟩) cs.length cs.length)), (67, (.slice p E.length cap)), (68, (.int .i64 ((E.length : Nat) : Int))), (69, (.int .i64 ((q : Nat) : Int)))] ∧ H' N2 = some (.row 3 0 (nats of_) n) ∧ H' N4 = some (.row 3 0 (ints (cs.map (g2 q))) cs.length) ∧ Sub (hdel H4 N2) H' ∧ N4 + 1 ≤ N') E.length ⟨0, Nat.zero_le _, rfl, ⟨rfl, rfl, rfl, rfl, rfl, rfl, rfl, trivial⟩, hof6, ?_, hs6, Nat.le_refl _⟩ ?_
    · rw [show cs.map (g2 0) = cs.map baseI from List.map_congr_left fun c _ => by rw [hg2e]; simp [edgeN]]; exact hou6
    clear hof6 hou6 hs6
    rintro m T H7 N7 ⟨q, hq, rfl, hT, hof7, hou7, hs7, hN7⟩
    obtain ⟨J7, rfl⟩ := hT.ex
    refine wc_own U fun hBN7 hlt7 => ?_
    repeat (first|refine nt ?_|refine nq ?_|refine wq U ?_)
    refine wg U ?_
    refine wr U (rd_lss U rfl rfl) rfl rfl ?_
    refine wz U ?_
    repeat (first|refine nt ?_|refine nq ?_|refine wq U ?_)
    refine wcd U (t := (decide (((q : Nat) : Int) < ((E.length : Nat) : Int)))) rfl (fun hcq => ?_) fun hcq => ?_
    · replace hcq := of_decide_eq_true hcq
      refine wsk U ?_
      repeat (first|refine nt ?_|refine nq ?_)
      have hq1 : q < E.length := by omega
      obtain ⟨eb, eo, rfl⟩ := hp (by omega)
      repeat (first|refine nt ?_|refine nq ?_|refine wq U ?_)
      refine wc_block U ?_
      have hv7 := ((hv.sub U hs12).sub U h2D).sub U hs7
      have hge := hg.at hq1
      obtain ⟨ci, hci, hxc, hofc⟩ := hofa E[q].1 (by omega)
      repeat (first|refine nt ?_|refine nq ?_|refine wq U ?_)
      refine wg U ?_
      refine wr U (rd_idxN U (j := q) sl_22 rfl rfl (by omega)) rfl rfl ?_
      refine wr U (rd_load3 U el_43 rfl (v0 := (.int .i64 ((E[q].1 : Nat) : Int))) (v1 := (.int .i64 ((E[q].2.1 : Nat) : Int))) (v2 := (.int .i64 (E[q].2.2)))  (hv7.e0 U hq1) (hv7.e1 U hq1) (hv7.e2 U hq1)) rfl rfl ?_
      refine wl_op U rfl rfl (op_alloc U z_43 rfl ?_)
      refine wl_op0 U rfl (op_store U (vs := [(.int .i64 ((E[q].1 : Nat) : Int)), (.int .i64 ((E[q].2.1 : Nat) : Int)), (.int .i64 (E[q].2.2))]) (cs := [(.int .i64 0), (.int .i64 0), (.int .i64 0)]) el_43 rfl rfl rfl rfl (one3 rfl rfl rfl) (by first|(rw [hsy]; done) | (rw [hsy]; rfl)) (by omega) (by simp) ?_)
      refine wz U ?_
      repeat (first|refine nt ?_|refine nq ?_)
      refine wc_gen U (fun R => R N7 = some (.row 43 0 [(.int .i64 ((E[q].1 : Nat) : Int)), (.int .i64 ((E[q].2.1 : Nat) : Int)), (.int .i64 (E[q].2.2))] 3) ∧ Sub _ R) ⟨(by first|(rw [hsy]; done) | (rw [hsy]; rfl)), (((Sub.refl _).hset (fresh hlt7 (by omega))).hset (fresh hlt7 (by omega)))⟩ ?_
      rintro H8 ⟨hx_4, hs8⟩ hBNH8 hltH8
      have hof8 := hs8 _ _ hof7; have hou8 := hs8 _ _ hou7
      have hgq : (cs.map (g2 q))[ci]? = some (g2 q cs[ci]) := by simp [hci]
      have hbb := hbase _ (List.getElem_mem hci); have hel := edgeN_le E cs[ci] q; have hgv := hg2e q cs[ci]
      repeat (first|refine nt ?_|refine nq ?_|refine wq U ?_)
      refine wg U ?_
      refine wr U ((rm U).to (v' := (.slice (some ⟨N4, 0, none⟩) cs.length cs.length)) rfl) rfl rfl ?_
      refine wr U ((rm U).to (v' := (.slice (some ⟨N2, 0, none⟩) n n)) rfl) rfl rfl ?_
      refine wr U ((rfa U fb_43_0 rfl).to (v' := (.pointer (some ⟨N7, 0, none⟩))) rfl) rfl rfl ?_
      refine wr U (rl1 U el_3 rfl (v := (.int .i64 ((E[q].1 : Nat) : Int))) (by rw [rrw U (by omega) hx_4]; rfl)) rfl rfl ?_
      refine wr U (rd_idx1 U (j := E[q].1) sl_26 rfl rfl (by omega)) rfl rfl ?_
      refine wr U (rl1 U el_3 rfl (v := (.int .i64 ((ci : Nat) : Int))) (rd_at U (by omega) hof8 (nats_get? hofc))) rfl rfl ?_
      refine wr U (rd_idx1 U (j := ci) sl_26 rfl rfl hci) rfl rfl ?_
      refine wr U (rl1 U el_3 rfl (v := (.int .i64 (g2 q cs[ci]))) (rd_at U (by omega) hou8 (ints_get? hgq))) rfl rfl ?_
      refine wr U (rd_sub' U rfl rfl (by omega) (by omega)) rfl rfl ?_
      refine wr U (rd_idx1 U (j := ci) sl_26 rfl rfl hci) rfl rfl ?_
      refine wl_op0 U rfl (op_store1 U el_3 rfl rfl rfl rfl hou8 (by omega) (by rw [ints_length, List.length_map]; omega) ?_)
      refine wz U ?_
      repeat (first|refine nt ?_|refine nq ?_)
      repeat (first|refine nt ?_|refine nq ?_|refine wq U ?_)
      refine wg U ?_
      refine wr U (rd_add U rfl rfl (by omega) (by omega)) rfl rfl ?_
      refine wr U ((rm U).to (v' := (.int .i64 (((q : Nat) : Int) + 1))) rfl) rfl rfl ?_
      refine wz U ?_
      repeat (first|refine nt ?_|refine nq ?_)
      refine ⟨E.length - (q + 1), by omega, q + 1, by omega, rfl, ⟨rfl, rfl, rfl, rfl, rfl, rfl, rfl, trivial⟩, (hsn (by omega)).trans hof8, ?_, (hs7.trans hs8).of fun c o h => hsn (by have := (hD c o h).1; omega), by omega⟩
      have hst := map_upd (cs := cs) (g := g2 q) (g' := g2 (q + 1)) hci (fun j hj hne => by rw [hg2e, hg2e, edgeN_succ E cs[j] hq1, if_neg (comp_only hcs hci hj hxc hne)]; omega)
      rw [← hst, show g2 (q + 1) cs[ci] = g2 q cs[ci] - 1 by rw [hg2e, hg2e, edgeN_succ E cs[ci] hq1, if_pos hxc]; omega, ← ints_set]; exact hsy
    · replace hcq := of_decide_eq_false hcq
      refine wc_exit U ?_
      repeat (first|refine xt ?_|refine xps (by decide) ?_)
      refine xbl ?_
      repeat (first|refine nt ?_|refine nq ?_)
      have hqe : q = E.length := by omega
      rw [hqe] at hou7
      repeat (first|refine nt ?_|refine nq ?_|refine wq U ?_)
      refine wg U ?_
      refine wr U ((rm U).to (v' := (.slice fp fs.length fcap)) rfl) rfl rfl ?_
      refine wr U ((rd_len' U sl_53 rfl).to (v' := (.int .i64 ((fs.length : Nat) : Int))) rfl) rfl rfl ?_
      refine wr U ((rm U).to (v' := (.int .i64 0)) rfl) rfl rfl ?_
      refine wz U ?_
      repeat (first|refine nt ?_|refine nq ?_|refine wq U ?_)
      refine wc_block U ?_
      obtain ⟨g3, hg3⟩ : ∃ g : Nat → List Nat → Int, (fun k c => baseI c - ((edgeN E c : Nat) : Int) + ((faceN (fs.take k) c : Nat) : Int)) = g := ⟨_, rfl⟩
      have hg3e : ∀ k c, g3 k c = baseI c - ((edgeN E c : Nat) : Int) + ((faceN (fs.take k) c : Nat) : Int) := fun k c => by rw [← hg3]
      refine wc_loop U (fun m T H' N' => ∃ (k : Nat), k ≤ fs.length ∧ m = fs.length - k ∧ Has T [(10, (.slice (some ⟨N4, 0, none⟩) cs.length cs.length)), (8, (.slice (some ⟨N2, 0, none⟩) n n)), (84, (.slice fp fs.length fcap)), (85, (.int .i64 ((fs.length : Nat) : Int))), (86, (.int .i64 ((k : Nat) : Int)))] ∧ H' N2 = some (.row 3 0 (nats of_) n) ∧ H' N4 = some (.row 3 0 (ints (cs.map (g3 k))) cs.length) ∧ Sub (hdel H4 N2) H' ∧ N4 + 1 ≤ N') fs.length ⟨0, Nat.zero_le _, rfl, ⟨rfl, rfl, rfl, rfl, rfl, trivial⟩, hof7, ?_, hs7, by omega⟩ ?_
      · rw [show cs.map (g3 0) = cs.map (g2 E.length) from List.map_congr_left fun c _ => by rw [hg3e, hg2e, List.take_length]; simp [faceN]]; exact hou7
      clear hof7 hou7 hs7
      rintro m T H8 N8 ⟨k, hk, rfl, hT, hof8, hou8, hs8, hN8⟩
      obtain ⟨J8, rfl⟩ := hT.ex
      refine wc_own U fun hBN8 hlt8 => ?_
      repeat (first|refine nt ?_|refine nq ?_|refine wq U ?_)
      refine wg U ?_
      refine wr U (rd_lss U rfl rfl) rfl rfl ?_
      refine wz U ?_
      repeat (first|refine nt ?_|refine nq ?_|refine wq U ?_)
      refine wcd U (t := (decide (((k : Nat) : Int) < ((fs.length : Nat) : Int)))) rfl (fun hck => ?_) fun hck => ?_
      · replace hck := of_decide_eq_true hck
        refine wsk U ?_
        repeat (first|refine nt ?_|refine nq ?_)
        have hk1 : k < fs.length := by omega
        obtain ⟨fb, fo, rfl⟩ := hfp (by omega)
        repeat (first|refine nt ?_|refine nq ?_|refine wq U ?_)
        refine wc_block U ?_
        have hfu8 := (hfu.sub U h2D).sub U hs8
        obtain ⟨xu, hxu⟩ := get_ex (l := fus) (i := k) (by omega)
        have hfk1 := List.getElem?_eq_getElem hk1
        have hxr := ((hfus k xu _ hxu hfk1).sub U h2D).sub U hs8
        obtain ⟨d, g, hdg, hdn⟩ := hfh _ (List.getElem_mem hk1)
        obtain ⟨xp, xk, xcap, rfl, hxc, hxk, hxp⟩ := hxr.out U
        have hxk1 : 0 < xk := by rw [hdg] at hxk; rw [dcs_length] at hxk; simp at hxk; omega
        obtain ⟨xb, xo, rfl⟩ := hxp hxk1
        have hd0 : (dcs fs[k])[0]? = some (.int .i64 ((d.1 : Nat) : Int)) := by rw [hdg]; rfl
        have hf0 : fst0 fs[k] = d.1 := by rw [hdg]; rfl
        obtain ⟨ci, hci, hxc2, hofc⟩ := hofa d.1 hdn
        repeat (first|refine nt ?_|refine nq ?_|refine wq U ?_)
        refine wg U ?_
        refine wr U (rd_idx1 U (j := k) sl_53 rfl rfl (by omega)) rfl rfl ?_
        refine wr U (rl1 U el_57 rfl (v := (.slice (some ⟨xb, xo, none⟩) xk xcap)) (hfu8.get U hxu)) rfl rfl ?_
        refine wr U ((ra U).to (v' := (.slice (some ⟨xb, xo, none⟩) xk xcap)) rfl) rfl rfl ?_
        refine wz U ?_
        have hgq : (cs.map (g3 k))[ci]? = some (g3 k cs[ci]) := by simp [hci]
        have hbb := hbase _ (List.getElem_mem hci); have hel := edgeN_le E cs[ci] E.length; have hfl3 := faceN_le fs cs[ci] k; have hgv := hg3e k cs[ci]; rw [List.take_length] at hel
        repeat (first|refine nt ?_|refine nq ?_|refine wq U ?_)
        refine wg U ?_
        refine wr U ((rm U).to (v' := (.slice (some ⟨N4, 0, none⟩) cs.length cs.length)) rfl) rfl rfl ?_
        refine wr U ((rm U).to (v' := (.slice (some ⟨N2, 0, none⟩) n n)) rfl) rfl rfl ?_
        refine wr U ((rm U).to (v' := (.slice (some ⟨xb, xo, none⟩) xk xcap)) rfl) rfl rfl ?_
        refine wr U (rd_idxN U (j := 0) sl_57 rfl rfl hxk1) rfl rfl ?_
        refine wr U ((rfa U fb_56_0 rfl).to (v' := (.pointer (some ⟨xb, xo + 0 * 2 + 0, none⟩))) rfl) rfl rfl ?_
        refine wr U (rl1 U el_3 rfl (v := (.int .i64 ((d.1 : Nat) : Int))) (show rd U H8 xb (xo + 0 * 2 + 0) = _ from hxr.get U hd0)) rfl rfl ?_
        refine wr U (rd_idx1 U (j := d.1) sl_26 rfl rfl hdn) rfl rfl ?_
        refine wr U (rl1 U el_3 rfl (v := (.int .i64 ((ci : Nat) : Int))) (rd_at U (by omega) hof8 (nats_get? hofc))) rfl rfl ?_
        refine wr U (rd_idx1 U (j := ci) sl_26 rfl rfl hci) rfl rfl ?_
        refine wr U (rl1 U el_3 rfl (v := (.int .i64 (g3 k cs[ci]))) (rd_at U (by omega) hou8 (ints_get? hgq))) rfl rfl ?_
        refine wr U (rd_add U rfl rfl (by omega) (by omega)) rfl rfl ?_
        refine wr U (rd_idx1 U (j := ci) sl_26 rfl rfl hci) rfl rfl ?_
        refine wl_op0 U rfl (op_store1 U el_3 rfl rfl rfl rfl hou8 (by omega) (by rw [ints_length, List.length_map]; omega) ?_)
        refine wz U ?_
        repeat (first|refine nt ?_|refine nq ?_)
        repeat (first|refine nt ?_|refine nq ?_|refine wq U ?_)
        refine wg U ?_
        refine wr U (rd_add U rfl rfl (by omega) (by omega)) rfl rfl ?_
        refine wr U ((rm U).to (v' := (.int .i64 (((k : Nat) : Int) + 1))) rfl) rfl rfl ?_
        refine wz U ?_
        repeat (first|refine nt ?_|refine nq ?_)
        refine ⟨fs.length - (k + 1), by omega, k + 1, by omega, rfl, ⟨rfl, rfl, rfl, rfl, rfl, trivial⟩, (hsn (by omega)).trans hof8, ?_, hs8.of fun c o h => hsn (by have := (hD c o h).1; omega), by omega⟩
        have hst := map_upd (cs := cs) (g := g3 k) (g' := g3 (k + 1)) hci (fun j hj hne => by rw [hg3e, hg3e, faceN_succ fs cs[j] hk1, hf0, if_neg (comp_only hcs hci hj hxc2 hne)]; omega)
        rw [← hst, show g3 (k + 1) cs[ci] = g3 k cs[ci] + 1 by rw [hg3e, hg3e, faceN_succ fs cs[ci] hk1, hf0, if_pos hxc2]; omega, ← ints_set]; exact hsy
      · replace hck := of_decide_eq_false hck
        refine wc_exit U ?_
        repeat (first|refine xt ?_|refine xps (by decide) ?_)
        refine xbl ?_
        repeat (first|refine nt ?_|refine nq ?_)
        have hkl : k = fs.length := by omega
        rw [hkl] at hou8
        repeat (first|refine nt ?_|refine nq ?_|refine wq U ?_)
        refine wg U ?_
        refine wr U ((rm U).to (v' := (.slice (some ⟨N4, 0, none⟩) cs.length cs.length)) rfl) rfl rfl ?_
        refine wr U ((ra U).to (v' := (.slice (some ⟨N4, 0, none⟩) cs.length cs.length)) rfl) rfl rfl ?_
        refine wr U ((ra U).to (v' := (.int .i64 0)) rfl) rfl rfl ?_
        refine wz U ?_
        have heq : cs.map (g3 fs.length) = cs.map (eulP E fs) := List.map_congr_left fun c _ => by rw [hg3e, List.take_length]; rfl
        rw [heq] at hou8
        refine wc_ret U ?_
        repeat (first|refine ret1 ?_|refine ret2 ?_)
        exact end2 U (.inl rfl) rfl (v := (.slice (some ⟨N4, 0, none⟩) cs.length cs.length)) (v' := (.int .i64 0)) rfl rfl ⟨_, cs, rfl, hcs, row_rds U (by omega) hou8 (by rw [ints_length, List.length_map]) (Nat.le_refl _), (hs12.trans h2D).trans hs8, by omega⟩
theorem s17 (n : Nat) (E : List NE) (sv rv : Value) (rs : List (List Nat)) (hg : GOk n E) (hP : PlaneOk n E rs) (H : Hp) (N : Nat) (hv : RdS U H sv 3 (necs E)) (hr : Rd2 U H rv rs) : Spec U 17 #[(.agg #[(.int .i64 ((n : Nat) : Int)), sv]), rv] H N (fun v H' N' => v = .int .i64 0 ∧ Sub H H' ∧ N ≤ N') := by
  obtain ⟨p, cap, rfl, hc, hp⟩ := hv.edges U
  refine spa U pf_17 (m := 20) rfl rfl (by simp) fun hBN hlt => ?_
  obtain ⟨J, hJ⟩ := Has.ex (T := argsT #[(.agg #[(.int .i64 ((n : Nat) : Int)), (.slice p E.length cap)]), rv]) (l := [(0, (.agg #[(.int .i64 ((n : Nat) : Int)), (.slice p E.length cap)])), (1, rv)]) ⟨rfl, rfl, trivial⟩
  rw [hJ]; clear hJ
  repeat (first|refine nt ?_|refine nq ?_|refine wq U ?_)
  refine wg U ?_
  refine wl_op U rfl rfl (op_box U rfl rfl ?_)
  refine wr U ((ra U).to (v' := (.int .i64 0)) rfl) rfl rfl ?_
  refine wz U ?_
  repeat (first|refine nt ?_|refine nq ?_)
  refine wc_gen U (fun R => R N = some (.row 24 0 [(.int .i64 ((n : Nat) : Int)), (.slice p E.length cap)] 2) ∧ Sub _ R) ⟨(by first|(rw [hsy]; done) | (rw [hsy]; rfl)), ((Sub.refl _).hset (fresh hlt (by omega)))⟩ ?_
  rintro H1 ⟨hx_5, hs1⟩ hBNH1 hltH1
  repeat (first|refine nt ?_|refine nq ?_|refine wq U ?_)
  refine wg U ?_
  refine wr U (rd_load2 U el_24 rfl (v0 := (.int .i64 ((n : Nat) : Int))) (v1 := (.slice p E.length cap))  (by rw [rrw U (by omega) hx_5]; rfl) (by rw [rrw U (by omega) hx_5]; rfl)) rfl rfl ?_
  refine wr U ((rm U).to (v' := rv) rfl) rfl rfl ?_
  refine wl_op U rfl rfl (op_call U Tryz.f29 rfl rfl pf_29 (by kernel_rfl) (by kernel_rfl) ((s29 U n E _ rv rs hg hP.1 _ _ (hv.sub U hs1) (hr.sub U hs1)).mono U ?_))
  rintro _ H2 N2 hq
  obtain ⟨ov, cs, rfl, hcs, hov, hs2, hN2⟩ := hq
  refine wr U ((rm U).to (v' := (.tuple #[ov, (.int .i64 0)])) rfl) rfl rfl ?_
  refine wr U ((rd_extract U rfl rfl).to (v' := ov) rfl) rfl rfl ?_
  refine wr U ((rd_extract U rfl rfl).to (v' := (.int .i64 0)) rfl) rfl rfl ?_
  refine wr U ((ra U).to (v' := ov) rfl) rfl rfl ?_
  refine wr U ((ra U).to (v' := (.int .i64 0)) rfl) rfl rfl ?_
  refine wz U ?_
  have hcl := comps_len hcs; have hn := hg.hn
  repeat (first|refine nt ?_|refine nq ?_|refine wq U ?_)
  refine wc_block U ?_
  repeat (first|refine nt ?_|refine nq ?_|refine wq U ?_)
  refine wg U ?_
  refine wr U ((rm U).to (v' := (.int .i64 0)) rfl) rfl rfl ?_
  refine wr U ((rd_neq U rfl rfl).to (v' := (.bool false)) rfl) rfl rfl ?_
  refine wr U ((ra U).to (v' := (.bool false)) rfl) rfl rfl ?_
  refine wz U ?_
  repeat (first|refine nt ?_|refine nq ?_|refine wq U ?_)
  refine wcd U (t := false) rfl (fun h => nomatch h) fun _ => ?_
  repeat (first|refine nt ?_|refine nq ?_|refine wq U ?_)
  refine wg U ?_
  refine wr U ((rm U).to (v' := ov) rfl) rfl rfl ?_
  refine wl_op U rfl rfl (op_call U Tryz.f30 rfl rfl pf_30 (by kernel_rfl) (by kernel_rfl) ((s30 U _ ov (fun x hx => by obtain ⟨c, hc, rfl⟩ := List.mem_map.1 hx; exact hP.2 cs hcs c hc) (by rw [List.length_map]; omega) H2 N2 hov).mono U ?_))
  rintro _ _ _ ⟨rfl, rfl, rfl⟩
  refine wr U ((ra U).to (v' := (.bool false)) rfl) rfl rfl ?_
  refine wz U ?_
  repeat (first|refine nt ?_|refine nq ?_|refine wq U ?_)
  refine wcd U (t := false) rfl (fun h => nomatch h) fun _ => ?_
  refine wsk U ?_
  repeat (first|refine nt ?_|refine nq ?_)
  repeat (first|refine nt ?_|refine nq ?_|refine wq U ?_)
  refine wg U ?_
  refine wr U ((ra U).to (v' := (.int .i64 0)) rfl) rfl rfl ?_
  refine wz U ?_
  refine wc_ret U ?_
  repeat (first|refine ret1 ?_|refine ret2 ?_)
  exact end1 U (.inl rfl) rfl (v := (.int .i64 0)) rfl ⟨rfl, hs1.trans hs2, by omega⟩
end Go.Proofs.YtdmodppoellbkaaGreat
namespace Go.Proofs.YtdmodppoellbkaaGreat
open Go Go.RowKit
variable (U : Cx)
/-- What Set tells: independent, as great as each shift's; it is a shift's, or none. -/
structure SetOk (n : Nat) (E : List NE) (k j : Nat) (os : List Nat) : Prop where
  ok : IndOk n E os
  max : ∀ s, s < j → ∀ bs, Best (adj E) (fun v => v < n ∧ (keptL n E k s).getD v false = true) bs → bs.length ≤ os.length
  one : os = [] ∨ ∃ s, s < j ∧ Best (adj E) (fun v => v < n ∧ (keptL n E k s).getD v false = true) os
theorem SetOk.more {n : Nat} {E : List NE} {k j : Nat} {os is : List Nat} (h : SetOk n E k j os) (hi : is.Pairwise (· < ·)) (hb : Best (adj E) (fun v => v < n ∧ (keptL n E k j).getD v false = true) is) (hl : os.length < is.length) : SetOk n E k (j + 1) is :=
  ⟨⟨hi, fun v hv => (hb.mem v hv).1, hb.ind⟩, fun s hs bs hbs => by
    rcases Nat.lt_or_ge s j with h1 | h1
    · have := h.max s h1 bs hbs; omega
    · obtain rfl : s = j := by omega
      exact Nat.le_of_eq (hbs.len hb), .inr ⟨j, by omega, hb⟩⟩
theorem SetOk.same {n : Nat} {E : List NE} {k j : Nat} {os is : List Nat} (h : SetOk n E k j os) (hb : Best (adj E) (fun v => v < n ∧ (keptL n E k j).getD v false = true) is) (hl : ¬ os.length < is.length) : SetOk n E k (j + 1) os :=
  ⟨h.ok, fun s hs bs hbs => by
    rcases Nat.lt_or_ge s j with h1 | h1
    · exact h.max s h1 bs hbs
    · obtain rfl : s = j := by omega
      have := hbs.len hb; omega, h.one.imp id fun ⟨s, hs, hb⟩ => ⟨s, by omega, hb⟩⟩
theorem s9 (n k : Nat) (E : List NE) (sv rv : Value) (rs : List (List Nat)) (hg : GOk n E) (hn40 : n ≤ 40) (hP : PlaneOk n E rs) (hk1 : 1 ≤ k) (hk8 : k ≤ 8) (H : Hp) (N : Nat) (hv : RdS U H sv 3 (necs E)) (hr : Rd2 U H rv rs) : Spec U 9 #[(.agg #[(.int .i64 ((n : Nat) : Int)), sv]), rv, (.int .i64 ((k : Nat) : Int))] H N (fun v H' N' => ∃ ov os, v = .tuple #[ov, .int .i64 0] ∧ RdS U H' ov 1 (nats os) ∧ SetOk n E k (k + 1) os ∧ Sub H H' ∧ N ≤ N') := by
  obtain ⟨p, cap, rfl, hc, hp⟩ := hv.edges U
  refine spa U pf_9 (m := 44) rfl rfl (by simp) fun hBN hlt => ?_
  obtain ⟨J, hJ⟩ := Has.ex (T := argsT #[(.agg #[(.int .i64 ((n : Nat) : Int)), (.slice p E.length cap)]), rv, (.int .i64 ((k : Nat) : Int))]) (l := [(0, (.agg #[(.int .i64 ((n : Nat) : Int)), (.slice p E.length cap)])), (1, rv), (2, (.int .i64 ((k : Nat) : Int)))]) ⟨rfl, rfl, rfl, trivial⟩
  rw [hJ]; clear hJ
  repeat (first|refine nt ?_|refine nq ?_|refine wq U ?_)
  refine wg U ?_
  refine wl_op U rfl rfl (op_box U rfl rfl ?_)
  refine wr U ((ra U).to (v' := (.slice none 0 0)) rfl) rfl rfl ?_
  refine wr U ((ra U).to (v' := (.int .i64 0)) rfl) rfl rfl ?_
  refine wz U ?_
  repeat (first|refine nt ?_|refine nq ?_)
  refine wc_gen U (fun R => R N = some (.row 24 0 [(.int .i64 ((n : Nat) : Int)), (.slice p E.length cap)] 2) ∧ Sub _ R) ⟨(by first|(rw [hsy]; done) | (rw [hsy]; rfl)), ((Sub.refl _).hset (fresh hlt (by omega)))⟩ ?_
  rintro H1 ⟨hx_1, hs1⟩ hBNH1 hltH1
  repeat (first|refine nt ?_|refine nq ?_|refine wq U ?_)
  refine wg U ?_
  refine wr U (rd_load2 U el_24 rfl (v0 := (.int .i64 ((n : Nat) : Int))) (v1 := (.slice p E.length cap))  (by rw [rrw U (by omega) hx_1]; rfl) (by rw [rrw U (by omega) hx_1]; rfl)) rfl rfl ?_
  refine wr U ((rm U).to (v' := rv) rfl) rfl rfl ?_
  refine wl_op U rfl rfl (op_call U Tryz.f17 rfl rfl pf_17 (by kernel_rfl) (by kernel_rfl) ((s17 U n E _ rv rs hg hP _ _ (hv.sub U hs1) (hr.sub U hs1)).mono U ?_))
  rintro _ H2 N2 ⟨rfl, hs2, hN2⟩
  have hx_2 := hs2 N _ hx_1
  have hs_3 := (Sub.refl _).trans hs2
  refine wr U ((ra U).to (v' := (.int .i64 0)) rfl) rfl rfl ?_
  refine wz U ?_
  have hs12 := hs1.trans hs2
  have hbx2 : H2 N = _ := hs2 _ _ hx_1
  repeat (first|refine nt ?_|refine nq ?_|refine wq U ?_)
  refine wg U ?_
  refine wr U ((rm U).to (v' := (.int .i64 0)) rfl) rfl rfl ?_
  refine wr U ((rd_neq U rfl rfl).to (v' := (.bool false)) rfl) rfl rfl ?_
  refine wz U ?_
  repeat (first|refine nt ?_|refine nq ?_|refine wq U ?_)
  refine wcd U (t := false) rfl (fun h => nomatch h) fun _ => ?_
  refine wsk U ?_
  repeat (first|refine nt ?_|refine nq ?_)
  repeat (first|refine nt ?_|refine nq ?_|refine wq U ?_)
  refine wg U ?_
  refine wr U ((rm U).to (v' := (.int .i64 ((k : Nat) : Int))) rfl) rfl rfl ?_
  refine wr U ((rd_lss U rfl rfl).to (v' := (.bool false)) (congrArg Value.bool (decide_eq_false (by omega)))) rfl rfl ?_
  refine wr U ((rm U).to (v' := (.bool false)) rfl) rfl rfl ?_
  refine wr U ((rm U).to (v' := (.int .i64 ((k : Nat) : Int))) rfl) rfl rfl ?_
  refine wr U ((rd_gtr U rfl rfl).to (v' := (.bool false)) (congrArg Value.bool (decide_eq_false (by omega)))) rfl rfl ?_
  refine wr U ((rd_pick U rfl).to (v' := (.bool false)) rfl) rfl rfl ?_
  refine wz U ?_
  repeat (first|refine nt ?_|refine nq ?_|refine wq U ?_)
  refine wcd U (t := false) rfl (fun h => nomatch h) fun _ => ?_
  refine wsk U ?_
  repeat (first|refine nt ?_|refine nq ?_)
  repeat (first|refine nt ?_|refine nq ?_|refine wq U ?_)
  refine wg U ?_
  refine wr U ((rm U).to (v' := (.int .i64 ((k : Nat) : Int))) rfl) rfl rfl ?_
  refine wr U ((rd_add U rfl rfl (by omega) (by omega)).to (v' := (.int .i64 ((k + 1 : Nat) : Int))) (congrArg (Value.int .i64) (by omega))) rfl rfl ?_
  refine wr U ((rm U).to (v' := (.int .i64 0)) rfl) rfl rfl ?_
  refine wz U ?_
  repeat (first|refine nt ?_|refine nq ?_|refine wq U ?_)
  refine wc_block U ?_
  refine wc_loop U (fun m T H' N' => ∃ (j : Nat) (op : Option Addr) (os : List Nat) (ocap : Nat), j ≤ k + 1 ∧ m = k + 1 - j ∧ Has T [(2, (.int .i64 ((k : Nat) : Int))), (3, (.pointer (some ⟨N, 0, none⟩))), (6, (.slice op os.length ocap)), (25, (.int .i64 ((k + 1 : Nat) : Int))), (26, (.int .i64 ((j : Nat) : Int)))] ∧ RdS U H' (.slice op os.length ocap) 1 (nats os) ∧ SetOk n E k j os ∧ Sub H2 H' ∧ N2 ≤ N') (k + 1) ⟨0, none, [], 0, Nat.zero_le _, rfl, ⟨rfl, rfl, rfl, rfl, rfl, trivial⟩, RdS.nil U, ⟨⟨by simp, by simp, by simp⟩, fun s hs => by omega, .inl rfl⟩, Sub.refl _, Nat.le_refl _⟩ ?_
  rintro m T H3 N3 ⟨j, op, os, ocap, hj, rfl, hT, hos, hS, hs3, hN3⟩
  obtain ⟨J, rfl⟩ := hT.ex
  have hNB : U.B ≤ N := hBN
  repeat (first|refine nt ?_|refine nq ?_|refine wq U ?_)
  refine wg U ?_
  refine wr U (rd_lss U rfl rfl) rfl rfl ?_
  refine wz U ?_
  repeat (first|refine nt ?_|refine nq ?_|refine wq U ?_)
  refine wcd U (t := (decide (((j : Nat) : Int) < ((k + 1 : Nat) : Int)))) rfl (fun hck => ?_) fun hck => ?_
  · replace hck := of_decide_eq_true hck
    refine wsk U ?_
    repeat (first|refine nt ?_|refine nq ?_)
    have hj1 : j < k + 1 := by omega
    repeat (first|refine nt ?_|refine nq ?_|refine wq U ?_)
    refine wc_block U ?_
    repeat (first|refine nt ?_|refine nq ?_|refine wq U ?_)
    refine wg U ?_
    refine wr U ((rm U).to (v' := (.int .i64 ((j : Nat) : Int))) rfl) rfl rfl ?_
    refine wr U ((ra U).to (v' := (.int .i64 ((j : Nat) : Int))) rfl) rfl rfl ?_
    refine wz U ?_
    repeat (first|refine nt ?_|refine nq ?_|refine wq U ?_)
    refine wg U ?_
    refine wr U (rd_load2 U el_24 rfl (v0 := (.int .i64 ((n : Nat) : Int))) (v1 := (.slice p E.length cap))  (by rw [rrw U (by omega) (hs3 _ _ hbx2)]; rfl) (by rw [rrw U (by omega) (hs3 _ _ hbx2)]; rfl)) rfl rfl ?_
    refine wr U ((rm U).to (v' := (.int .i64 ((k : Nat) : Int))) rfl) rfl rfl ?_
    refine wr U ((rm U).to (v' := (.int .i64 ((j : Nat) : Int))) rfl) rfl rfl ?_
    refine wl_op U rfl rfl (op_call U Tryz.f11 rfl rfl pf_11 (by kernel_rfl) (by kernel_rfl) ((s11 U n k j E _ hg hn40 hk1 hk8 (by omega) H3 N3 (hv.sub U (hs12.trans hs3))).mono U ?_))
    rintro _ H4 N4 hq
    obtain ⟨iv, is, rfl, hiv, hisrt, hbst, hs4, hN4⟩ := hq
    obtain ⟨ip, icap, rfl, hic, hip⟩ := hiv.nums U
    refine wr U ((rm U).to (v' := (.tuple #[(.slice ip is.length icap), (.int .i64 0)])) rfl) rfl rfl ?_
    refine wr U ((rd_extract U rfl rfl).to (v' := (.slice ip is.length icap)) rfl) rfl rfl ?_
    refine wr U ((rd_extract U rfl rfl).to (v' := (.int .i64 0)) rfl) rfl rfl ?_
    refine wr U ((ra U).to (v' := (.slice ip is.length icap)) rfl) rfl rfl ?_
    refine wr U ((ra U).to (v' := (.int .i64 0)) rfl) rfl rfl ?_
    refine wz U ?_
    repeat (first|refine nt ?_|refine nq ?_|refine wq U ?_)
    refine wg U ?_
    refine wr U ((rm U).to (v' := (.slice ip is.length icap)) rfl) rfl rfl ?_
    refine wr U ((rd_len' U sl_26 rfl).to (v' := (.int .i64 ((is.length : Nat) : Int))) rfl) rfl rfl ?_
    refine wr U ((rm U).to (v' := (.slice op os.length ocap)) rfl) rfl rfl ?_
    refine wr U ((rd_len' U sl_26 rfl).to (v' := (.int .i64 ((os.length : Nat) : Int))) rfl) rfl rfl ?_
    refine wr U (rd_gtr U rfl rfl) rfl rfl ?_
    refine wz U ?_
    repeat (first|refine nt ?_|refine nq ?_|refine wq U ?_)
    refine wcd U (t := (decide (((os.length : Nat) : Int) < ((is.length : Nat) : Int)))) rfl (fun hl => ?_) fun hl => ?_
    · replace hl := of_decide_eq_true hl
      repeat (first|refine nt ?_|refine nq ?_|refine wq U ?_)
      refine wg U ?_
      refine wr U ((rm U).to (v' := (.slice ip is.length icap)) rfl) rfl rfl ?_
      refine wr U ((ra U).to (v' := (.slice ip is.length icap)) rfl) rfl rfl ?_
      refine wz U ?_
      repeat (first|refine nt ?_|refine nq ?_)
      repeat (first|refine nt ?_|refine nq ?_|refine wq U ?_)
      refine wg U ?_
      refine wr U (rd_add U rfl rfl (by omega) (by omega)) rfl rfl ?_
      refine wr U ((rm U).to (v' := (.int .i64 (((j : Nat) : Int) + 1))) rfl) rfl rfl ?_
      refine wz U ?_
      repeat (first|refine nt ?_|refine nq ?_)
      exact ⟨k + 1 - (j + 1), by omega, j + 1, ip, is, icap, by omega, rfl, ⟨rfl, rfl, rfl, rfl, rfl, trivial⟩, hiv, hS.more hisrt hbst (by omega), hs3.trans hs4, by omega⟩
    · replace hl := of_decide_eq_false hl
      refine wsk U ?_
      repeat (first|refine nt ?_|refine nq ?_)
      repeat (first|refine nt ?_|refine nq ?_|refine wq U ?_)
      refine wg U ?_
      refine wr U (rd_add U rfl rfl (by omega) (by omega)) rfl rfl ?_
      refine wr U ((rm U).to (v' := (.int .i64 (((j : Nat) : Int) + 1))) rfl) rfl rfl ?_
      refine wz U ?_
      repeat (first|refine nt ?_|refine nq ?_)
      exact ⟨k + 1 - (j + 1), by omega, j + 1, op, os, ocap, by omega, rfl, ⟨rfl, rfl, rfl, rfl, rfl, trivial⟩, hos.sub U hs4, hS.same hbst (by omega), hs3.trans hs4, by omega⟩
  · replace hck := of_decide_eq_false hck
    refine wc_exit U ?_
    repeat (first|refine xt ?_|refine xps (by decide) ?_)
    refine xbl ?_
    repeat (first|refine nt ?_|refine nq ?_)
    have hjk : j = k + 1 := by omega
    rw [hjk] at hS
    repeat (first|refine nt ?_|refine nq ?_|refine wq U ?_)
    refine wg U ?_
    refine wr U ((rm U).to (v' := (.slice op os.length ocap)) rfl) rfl rfl ?_
    refine wr U ((ra U).to (v' := (.slice op os.length ocap)) rfl) rfl rfl ?_
    refine wr U ((ra U).to (v' := (.int .i64 0)) rfl) rfl rfl ?_
    refine wz U ?_
    refine wc_ret U ?_
    repeat (first|refine ret1 ?_|refine ret2 ?_)
    exact end2 U (.inl rfl) rfl (v := (.slice op os.length ocap)) (v' := (.int .i64 0)) rfl rfl ⟨_, os, rfl, hos, hS, hs12.trans hs3, by omega⟩
end Go.Proofs.YtdmodppoellbkaaGreat
namespace Go.Proofs.YtdmodppoellbkaaGreat
open Go Go.RowKit
variable (U : Cx)
theorem RdS.i0 {F : Hp} {b off k cap : Nat} {l : List Ed} (h : RdS U F (.slice (some ⟨b, off, none⟩) k cap) 3 (ecs l)) {j : Nat} (hj : j < l.length) : rd U F b (off + j * 3) = some (.int .i64 l[j].1) := h.get U (ecs_get l hj).1
theorem RdS.i1 {F : Hp} {b off k cap : Nat} {l : List Ed} (h : RdS U F (.slice (some ⟨b, off, none⟩) k cap) 3 (ecs l)) {j : Nat} (hj : j < l.length) : rd U F b (off + j * 3 + 1) = some (.int .i64 l[j].2.1) := h.get U (ecs_get l hj).2.1
theorem RdS.i2 {F : Hp} {b off k cap : Nat} {l : List Ed} (h : RdS U F (.slice (some ⟨b, off, none⟩) k cap) 3 (ecs l)) {j : Nat} (hj : j < l.length) : rd U F b (off + j * 3 + 2) = some (.int .i64 l[j].2.2) := h.get U (ecs_get l hj).2.2
theorem RdS.iedges {F : Hp} {v : Value} {l : List Ed} (h : RdS U F v 3 (ecs l)) : ∃ p cap, v = .slice p l.length cap ∧ l.length ≤ cap ∧ (0 < l.length → ∃ b off, p = some ⟨b, off, none⟩) := by
  obtain ⟨p, k, cap, rfl, hkc, hl, hp⟩ := h.out U
  rw [ecs_length] at hl
  obtain rfl : l.length = k := by omega
  exact ⟨p, cap, rfl, hkc, hp⟩
theorem ecs_nE (E : List NE) : ecs (E.map nE) = necs E := by induction E with | nil => rfl | cons e l ih => simp only [List.map_cons, ecs, necs, ih]; rfl
def EdgeI (n : Int) (e : Ed) : Prop := 0 ≤ e.1 ∧ e.1 < n ∧ 0 ≤ e.2.1 ∧ e.2.1 < n ∧ e.1 ≠ e.2.1 ∧ -2147483648 < e.2.2 ∧ e.2.2 < 2147483648
def ltI (a b : Ed) : Prop := a.1 < b.1 ∨ (a.1 = b.1 ∧ a.2.1 < b.2.1)
instance (a b : Ed) : Decidable (ltI a b) := by unfold ltI; infer_instance
def edOk (n : Int) (E : List Ed) (i : Nat) : Prop := ∀ h : i < E.length, EdgeI n E[i] ∧ E[i].1 ≤ E[i].2.1 ∧ (0 < i → ltI E[i-1] E[i])
def RightI (n : Int) (E : List Ed) : Prop := 0 ≤ n ∧ ∀ i, i < E.length → edOk n E i
theorem RightI.gok {n : Int} {E : List Ed} (h : RightI n E) (hn : n ≤ 64) (hm : E.length ≤ 1000) : ∃ (m : Nat) (E' : List NE), n = ((m : Nat) : Int) ∧ E = E'.map nE ∧ GOk m E' := by
  have hall : ∀ e ∈ E, EdgeI n e ∧ e.1 ≤ e.2.1 := fun e he => by
    obtain ⟨i, hi, rfl⟩ := List.mem_iff_getElem.1 he; have := h.2 i hi hi; exact ⟨this.1, this.2.1⟩
  have hE : E = (E.map fun e => ((e.1.toNat, e.2.1.toNat, e.2.2) : NE)).map nE := by
    rw [List.map_map]; conv => lhs; rw [← List.map_id E]
    refine List.map_congr_left fun e he => ?_
    have := (hall e he).1; unfold EdgeI at this
    simp only [Function.comp, nE, id]
    rw [Int.toNat_of_nonneg this.1, Int.toNat_of_nonneg this.2.2.1]
  have h0 := h.1
  refine ⟨n.toNat, _, (Int.toNat_of_nonneg h.1).symm, hE, ⟨by omega, by simpa using hm, ?_, ?_⟩⟩
  · intro e he
    obtain ⟨e', he', rfl⟩ := List.mem_map.1 he
    have := hall e' he'; unfold EdgeI at this
    simp only; omega
  · rw [List.pairwise_map]
    have step : ∀ i (hi : i + 1 < E.length), ltI E[i] E[i+1] := fun i hi => by have := (h.2 (i + 1) hi hi).2.2 (by omega); simpa using this
    refine List.pairwise_iff_getElem.2 fun i j hi hj hij => ?_
    have key : ltI E[i] E[j] := by
      clear hE hall
      obtain ⟨d, rfl⟩ : ∃ d, j = i + 1 + d := ⟨j - (i + 1), by omega⟩
      clear hij
      induction d with
      | zero => exact step i hj
      | succ d ih =>
        have h1 := ih (by omega); have h2 := step (i + 1 + d) hj
        unfold ltI at *; simp only [Nat.add_assoc] at *; omega
    have a := (hall _ (List.getElem_mem hi)).1; have b := (hall _ (List.getElem_mem hj)).1
    unfold ltI at key; unfold EdgeI at a b; unfold ltE
    simp only; omega
theorem GOk.rightI {n : Nat} {E : List NE} (h : GOk n E) : RightI ((n : Nat) : Int) (E.map nE) := by
  refine ⟨by omega, fun i hi hi' => ?_⟩
  rw [List.length_map] at hi
  have := h.at hi
  simp only [List.getElem_map]
  refine ⟨?_, ?_, fun h0 => ?_⟩
  · unfold EdgeI nE; simp only; omega
  · unfold nE; simp only; omega
  · have hl := List.pairwise_iff_getElem.1 h.hs (i - 1) i (by omega) hi (by omega)
    unfold ltE at hl; unfold ltI nE; simp only; omega
theorem s26 (n m : Int) (h1 : n ≤ 1048576) (h2 : m ≤ 4194304) (H : Hp) (N : Nat) : Spec U 26 #[(.int .i64 n), (.int .i64 m)] H N (fun v H' N' => v = .int .i64 (if n < 0 then 1 else 0) ∧ H = H' ∧ N = N') := by
  refine spa U pf_26 (m := 13) rfl rfl (by simp) fun hBN hlt => ?_
  obtain ⟨J, hJ⟩ := Has.ex (T := argsT #[(.int .i64 n), (.int .i64 m)]) (l := [(0, (.int .i64 n)), (1, (.int .i64 m))]) ⟨rfl, rfl, trivial⟩
  rw [hJ]; clear hJ
  repeat (first|refine nt ?_|refine nq ?_|refine wq U ?_)
  refine wg U ?_
  refine wr U ((ra U).to (v' := (.int .i64 0)) rfl) rfl rfl ?_
  refine wz U ?_
  repeat (first|refine nt ?_|refine nq ?_|refine wq U ?_)
  refine wg U ?_
  refine wr U ((rm U).to (v' := (.int .i64 n)) rfl) rfl rfl ?_
  refine wr U (rd_lss U rfl rfl) rfl rfl ?_
  refine wz U ?_
  repeat (first|refine nt ?_|refine nq ?_|refine wq U ?_)
  refine wcd U (t := (decide (n < 0))) rfl (fun hc => ?_) fun hc => ?_
  · replace hc := of_decide_eq_true hc
    repeat (first|refine nt ?_|refine nq ?_|refine wq U ?_)
    refine wg U ?_
    refine wr U ((ra U).to (v' := (.int .i64 1)) rfl) rfl rfl ?_
    refine wz U ?_
    refine wc_ret U ?_
    repeat (first|refine ret1 ?_|refine ret2 ?_)
    exact end1 U (.inl rfl) rfl (v := (.int .i64 1)) rfl ⟨by rw [if_pos hc], rfl, rfl⟩
  · replace hc := of_decide_eq_false hc
    refine wsk U ?_
    repeat (first|refine nt ?_|refine nq ?_)
    repeat (first|refine nt ?_|refine nq ?_|refine wq U ?_)
    refine wg U ?_
    refine wr U ((rm U).to (v' := (.int .i64 n)) rfl) rfl rfl ?_
    refine wr U ((rd_gtr U rfl rfl).to (v' := (.bool false)) (congrArg Value.bool (decide_eq_false (by omega)))) rfl rfl ?_
    refine wr U ((rm U).to (v' := (.bool false)) rfl) rfl rfl ?_
    refine wr U ((rm U).to (v' := (.int .i64 m)) rfl) rfl rfl ?_
    refine wr U ((rd_gtr U rfl rfl).to (v' := (.bool false)) (congrArg Value.bool (decide_eq_false (by omega)))) rfl rfl ?_
    refine wr U ((rd_pick U rfl).to (v' := (.bool false)) rfl) rfl rfl ?_
    refine wz U ?_
    repeat (first|refine nt ?_|refine nq ?_|refine wq U ?_)
    refine wcd U (t := false) rfl (fun h => nomatch h) fun _ => ?_
    refine wsk U ?_
    repeat (first|refine nt ?_|refine nq ?_)
    repeat (first|refine nt ?_|refine nq ?_|refine wq U ?_)
    refine wg U ?_
    refine wr U ((ra U).to (v' := (.int .i64 0)) rfl) rfl rfl ?_
    refine wz U ?_
    refine wc_ret U ?_
    repeat (first|refine ret1 ?_|refine ret2 ?_)
    exact end1 U (.inl rfl) rfl (v := (.int .i64 0)) rfl ⟨by rw [if_neg hc], rfl, rfl⟩
theorem s27 (n : Int) (e : Ed) (H : Hp) (N : Nat) : Spec U 27 #[(.int .i64 n), (.agg #[(.int .i64 e.1), (.int .i64 e.2.1), (.int .i64 e.2.2)])] H N (fun v H' N' => (∃ k : Int, v = .int .i64 k ∧ (k = 0 ↔ EdgeI n e)) ∧ Sub H H' ∧ N ≤ N') := by
  refine spa U pf_27 (m := 38) rfl rfl (by simp) fun hBN hlt => ?_
  obtain ⟨J, hJ⟩ := Has.ex (T := argsT #[(.int .i64 n), (.agg #[(.int .i64 e.1), (.int .i64 e.2.1), (.int .i64 e.2.2)])]) (l := [(0, (.int .i64 n)), (1, (.agg #[(.int .i64 e.1), (.int .i64 e.2.1), (.int .i64 e.2.2)]))]) ⟨rfl, rfl, trivial⟩
  rw [hJ]; clear hJ
  repeat (first|refine nt ?_|refine nq ?_|refine wq U ?_)
  refine wg U ?_
  refine wl_op U rfl rfl (op_box U rfl rfl ?_)
  refine wr U ((ra U).to (v' := (.int .i64 0)) rfl) rfl rfl ?_
  refine wz U ?_
  repeat (first|refine nt ?_|refine nq ?_)
  have hs1 : Sub H (hset H N (.row 43 0 [(.int .i64 e.1), (.int .i64 e.2.1), (.int .i64 e.2.2)] 3)) := (Sub.refl H).hset (fresh hlt (by omega))
  repeat (first|refine nt ?_|refine nq ?_|refine wq U ?_)
  refine wg U ?_
  refine wr U ((rfa U fb_43_0 rfl).to (v' := (.pointer (some ⟨N, 0, none⟩))) rfl) rfl rfl ?_
  refine wr U (rl1 U el_3 rfl (v := (.int .i64 e.1)) (by rw [rhq U (by omega)]; rfl)) rfl rfl ?_
  by_cases h1_2 : e.1 < 0
  · skip
    refine wr U ((rd_lss U rfl rfl).to (v' := (.bool true)) (congrArg Value.bool (decide_eq_true h1_2))) rfl rfl ?_
    refine wr U ((rm U).to (v' := (.bool true)) rfl) rfl rfl ?_
    refine wl_pass U rfl rfl ?_
    refine wl_pass U rfl rfl ?_
    refine wl_pass U rfl rfl ?_
    refine wl_pass U rfl rfl ?_
    refine wr U ((rd_pick U rfl).to (v' := (.bool true)) rfl) rfl rfl ?_
    refine wr U ((rm U).to (v' := (.bool true)) rfl) rfl rfl ?_
    refine wl_pass U rfl rfl ?_
    refine wl_pass U rfl rfl ?_
    refine wl_pass U rfl rfl ?_
    refine wr U ((rd_pick U rfl).to (v' := (.bool true)) rfl) rfl rfl ?_
    refine wr U ((rm U).to (v' := (.bool true)) rfl) rfl rfl ?_
    refine wl_pass U rfl rfl ?_
    refine wl_pass U rfl rfl ?_
    refine wl_pass U rfl rfl ?_
    refine wl_pass U rfl rfl ?_
    refine wr U ((rd_pick U rfl).to (v' := (.bool true)) rfl) rfl rfl ?_
    refine wz U ?_
    repeat (first|refine nt ?_|refine nq ?_|refine wq U ?_)
    refine wcd U (t := true) rfl (fun _ => ?_) (fun h => nomatch h)
    repeat (first|refine nt ?_|refine nq ?_|refine wq U ?_)
    refine wg U ?_
    refine wr U ((ra U).to (v' := (.int .i64 5)) rfl) rfl rfl ?_
    refine wz U ?_
    refine wc_ret U ?_
    repeat (first|refine ret1 ?_|refine ret2 ?_)
    exact end1 U (.inl rfl) rfl (v := (.int .i64 5)) rfl ⟨⟨_, rfl, ⟨fun h => absurd h (by decide), fun h => by unfold EdgeI at h; omega⟩⟩, hs1, by omega⟩
  · skip
    refine wr U ((rd_lss U rfl rfl).to (v' := (.bool false)) (congrArg Value.bool (decide_eq_false h1_2))) rfl rfl ?_
    refine wr U ((rm U).to (v' := (.bool false)) rfl) rfl rfl ?_
    refine wr U ((rfa U fb_43_0 rfl).to (v' := (.pointer (some ⟨N, 0, none⟩))) rfl) rfl rfl ?_
    refine wr U (rl1 U el_3 rfl (v := (.int .i64 e.1)) (by rw [rhq U (by omega)]; rfl)) rfl rfl ?_
    refine wr U ((rm U).to (v' := (.int .i64 n)) rfl) rfl rfl ?_
    by_cases h1_7 : n ≤ e.1
    · skip
      refine wr U ((rd_geq U rfl rfl).to (v' := (.bool true)) (congrArg Value.bool (decide_eq_true h1_7))) rfl rfl ?_
      refine wr U ((rd_pick U rfl).to (v' := (.bool true)) rfl) rfl rfl ?_
      refine wr U ((rm U).to (v' := (.bool true)) rfl) rfl rfl ?_
      refine wl_pass U rfl rfl ?_
      refine wl_pass U rfl rfl ?_
      refine wl_pass U rfl rfl ?_
      refine wr U ((rd_pick U rfl).to (v' := (.bool true)) rfl) rfl rfl ?_
      refine wr U ((rm U).to (v' := (.bool true)) rfl) rfl rfl ?_
      refine wl_pass U rfl rfl ?_
      refine wl_pass U rfl rfl ?_
      refine wl_pass U rfl rfl ?_
      refine wl_pass U rfl rfl ?_
      refine wr U ((rd_pick U rfl).to (v' := (.bool true)) rfl) rfl rfl ?_
      refine wz U ?_
      repeat (first|refine nt ?_|refine nq ?_|refine wq U ?_)
      refine wcd U (t := true) rfl (fun _ => ?_) (fun h => nomatch h)
      repeat (first|refine nt ?_|refine nq ?_|refine wq U ?_)
      refine wg U ?_
      refine wr U ((ra U).to (v' := (.int .i64 5)) rfl) rfl rfl ?_
      refine wz U ?_
      refine wc_ret U ?_
      repeat (first|refine ret1 ?_|refine ret2 ?_)
      exact end1 U (.inl rfl) rfl (v := (.int .i64 5)) rfl ⟨⟨_, rfl, ⟨fun h => absurd h (by decide), fun h => by unfold EdgeI at h; omega⟩⟩, hs1, by omega⟩
    · skip
      refine wr U ((rd_geq U rfl rfl).to (v' := (.bool false)) (congrArg Value.bool (decide_eq_false h1_7))) rfl rfl ?_
      refine wr U ((rd_pick U rfl).to (v' := (.bool false)) rfl) rfl rfl ?_
      refine wr U ((rm U).to (v' := (.bool false)) rfl) rfl rfl ?_
      refine wr U ((rfa U fb_43_1 rfl).to (v' := (.pointer (some ⟨N, 1, none⟩))) rfl) rfl rfl ?_
      refine wr U (rl1 U el_3 rfl (v := (.int .i64 e.2.1)) (by rw [rhq U (by omega)]; rfl)) rfl rfl ?_
      by_cases h1_12 : e.2.1 < 0
      · skip
        refine wr U ((rd_lss U rfl rfl).to (v' := (.bool true)) (congrArg Value.bool (decide_eq_true h1_12))) rfl rfl ?_
        refine wr U ((rd_pick U rfl).to (v' := (.bool true)) rfl) rfl rfl ?_
        refine wr U ((rm U).to (v' := (.bool true)) rfl) rfl rfl ?_
        refine wl_pass U rfl rfl ?_
        refine wl_pass U rfl rfl ?_
        refine wl_pass U rfl rfl ?_
        refine wl_pass U rfl rfl ?_
        refine wr U ((rd_pick U rfl).to (v' := (.bool true)) rfl) rfl rfl ?_
        refine wz U ?_
        repeat (first|refine nt ?_|refine nq ?_|refine wq U ?_)
        refine wcd U (t := true) rfl (fun _ => ?_) (fun h => nomatch h)
        repeat (first|refine nt ?_|refine nq ?_|refine wq U ?_)
        refine wg U ?_
        refine wr U ((ra U).to (v' := (.int .i64 5)) rfl) rfl rfl ?_
        refine wz U ?_
        refine wc_ret U ?_
        repeat (first|refine ret1 ?_|refine ret2 ?_)
        exact end1 U (.inl rfl) rfl (v := (.int .i64 5)) rfl ⟨⟨_, rfl, ⟨fun h => absurd h (by decide), fun h => by unfold EdgeI at h; omega⟩⟩, hs1, by omega⟩
      · skip
        refine wr U ((rd_lss U rfl rfl).to (v' := (.bool false)) (congrArg Value.bool (decide_eq_false h1_12))) rfl rfl ?_
        refine wr U ((rd_pick U rfl).to (v' := (.bool false)) rfl) rfl rfl ?_
        refine wr U ((rm U).to (v' := (.bool false)) rfl) rfl rfl ?_
        refine wr U ((rfa U fb_43_1 rfl).to (v' := (.pointer (some ⟨N, 1, none⟩))) rfl) rfl rfl ?_
        refine wr U (rl1 U el_3 rfl (v := (.int .i64 e.2.1)) (by rw [rhq U (by omega)]; rfl)) rfl rfl ?_
        refine wr U ((rm U).to (v' := (.int .i64 n)) rfl) rfl rfl ?_
        by_cases h1_18 : n ≤ e.2.1
        · skip
          refine wr U ((rd_geq U rfl rfl).to (v' := (.bool true)) (congrArg Value.bool (decide_eq_true h1_18))) rfl rfl ?_
          refine wr U ((rd_pick U rfl).to (v' := (.bool true)) rfl) rfl rfl ?_
          refine wz U ?_
          repeat (first|refine nt ?_|refine nq ?_|refine wq U ?_)
          refine wcd U (t := true) rfl (fun _ => ?_) (fun h => nomatch h)
          repeat (first|refine nt ?_|refine nq ?_|refine wq U ?_)
          refine wg U ?_
          refine wr U ((ra U).to (v' := (.int .i64 5)) rfl) rfl rfl ?_
          refine wz U ?_
          refine wc_ret U ?_
          repeat (first|refine ret1 ?_|refine ret2 ?_)
          exact end1 U (.inl rfl) rfl (v := (.int .i64 5)) rfl ⟨⟨_, rfl, ⟨fun h => absurd h (by decide), fun h => by unfold EdgeI at h; omega⟩⟩, hs1, by omega⟩
        · skip
          refine wr U ((rd_geq U rfl rfl).to (v' := (.bool false)) (congrArg Value.bool (decide_eq_false h1_18))) rfl rfl ?_
          refine wr U ((rd_pick U rfl).to (v' := (.bool false)) rfl) rfl rfl ?_
          refine wz U ?_
          repeat (first|refine nt ?_|refine nq ?_|refine wq U ?_)
          refine wcd U (t := false) rfl (fun h => nomatch h) fun _ => ?_
          refine wsk U ?_
          repeat (first|refine nt ?_|refine nq ?_)
          repeat (first|refine nt ?_|refine nq ?_|refine wq U ?_)
          refine wg U ?_
          refine wr U ((rfa U fb_43_0 rfl).to (v' := (.pointer (some ⟨N, 0, none⟩))) rfl) rfl rfl ?_
          refine wr U (rl1 U el_3 rfl (v := (.int .i64 e.1)) (by rw [rhq U (by omega)]; rfl)) rfl rfl ?_
          refine wr U ((rfa U fb_43_1 rfl).to (v' := (.pointer (some ⟨N, 1, none⟩))) rfl) rfl rfl ?_
          refine wr U (rl1 U el_3 rfl (v := (.int .i64 e.2.1)) (by rw [rhq U (by omega)]; rfl)) rfl rfl ?_
          refine wr U (rd_eql U rfl rfl) rfl rfl ?_
          refine wz U ?_
          repeat (first|refine nt ?_|refine nq ?_|refine wq U ?_)
          refine wcd U (t := (decide (e.1 = e.2.1))) rfl (fun huv => ?_) fun huv => ?_
          · replace huv := of_decide_eq_true huv
            repeat (first|refine nt ?_|refine nq ?_|refine wq U ?_)
            refine wg U ?_
            refine wr U ((ra U).to (v' := (.int .i64 6)) rfl) rfl rfl ?_
            refine wz U ?_
            refine wc_ret U ?_
            repeat (first|refine ret1 ?_|refine ret2 ?_)
            exact end1 U (.inl rfl) rfl (v := (.int .i64 6)) rfl ⟨⟨_, rfl, ⟨fun h => absurd h (by decide), fun h => by unfold EdgeI at h; omega⟩⟩, hs1, by omega⟩
          · replace huv := of_decide_eq_false huv
            refine wsk U ?_
            repeat (first|refine nt ?_|refine nq ?_)
            repeat (first|refine nt ?_|refine nq ?_|refine wq U ?_)
            refine wg U ?_
            refine wr U ((rfa U fb_43_2 rfl).to (v' := (.pointer (some ⟨N, 2, none⟩))) rfl) rfl rfl ?_
            refine wr U (rl1 U el_2 rfl (v := (.int .i64 e.2.2)) (by rw [rhq U (by omega)]; rfl)) rfl rfl ?_
            by_cases h5_2 : e.2.2 ≤ (-2147483648)
            · skip
              refine wr U ((rd_leq U rfl rfl).to (v' := (.bool true)) (congrArg Value.bool (decide_eq_true h5_2))) rfl rfl ?_
              refine wr U ((rm U).to (v' := (.bool true)) rfl) rfl rfl ?_
              refine wl_pass U rfl rfl ?_
              refine wl_pass U rfl rfl ?_
              refine wl_pass U rfl rfl ?_
              refine wr U ((rd_pick U rfl).to (v' := (.bool true)) rfl) rfl rfl ?_
              refine wz U ?_
              repeat (first|refine nt ?_|refine nq ?_|refine wq U ?_)
              refine wcd U (t := true) rfl (fun _ => ?_) (fun h => nomatch h)
              repeat (first|refine nt ?_|refine nq ?_|refine wq U ?_)
              refine wg U ?_
              refine wr U ((ra U).to (v' := (.int .i64 8)) rfl) rfl rfl ?_
              refine wz U ?_
              refine wc_ret U ?_
              repeat (first|refine ret1 ?_|refine ret2 ?_)
              exact end1 U (.inl rfl) rfl (v := (.int .i64 8)) rfl ⟨⟨_, rfl, ⟨fun h => absurd h (by decide), fun h => by unfold EdgeI at h; omega⟩⟩, hs1, by omega⟩
            · skip
              refine wr U ((rd_leq U rfl rfl).to (v' := (.bool false)) (congrArg Value.bool (decide_eq_false h5_2))) rfl rfl ?_
              refine wr U ((rm U).to (v' := (.bool false)) rfl) rfl rfl ?_
              refine wr U ((rfa U fb_43_2 rfl).to (v' := (.pointer (some ⟨N, 2, none⟩))) rfl) rfl rfl ?_
              refine wr U (rl1 U el_2 rfl (v := (.int .i64 e.2.2)) (by rw [rhq U (by omega)]; rfl)) rfl rfl ?_
              by_cases h5_6 : 2147483648 ≤ e.2.2
              · skip
                refine wr U ((rd_geq U rfl rfl).to (v' := (.bool true)) (congrArg Value.bool (decide_eq_true h5_6))) rfl rfl ?_
                refine wr U ((rd_pick U rfl).to (v' := (.bool true)) rfl) rfl rfl ?_
                refine wz U ?_
                repeat (first|refine nt ?_|refine nq ?_|refine wq U ?_)
                refine wcd U (t := true) rfl (fun _ => ?_) (fun h => nomatch h)
                repeat (first|refine nt ?_|refine nq ?_|refine wq U ?_)
                refine wg U ?_
                refine wr U ((ra U).to (v' := (.int .i64 8)) rfl) rfl rfl ?_
                refine wz U ?_
                refine wc_ret U ?_
                repeat (first|refine ret1 ?_|refine ret2 ?_)
                exact end1 U (.inl rfl) rfl (v := (.int .i64 8)) rfl ⟨⟨_, rfl, ⟨fun h => absurd h (by decide), fun h => by unfold EdgeI at h; omega⟩⟩, hs1, by omega⟩
              · skip
                refine wr U ((rd_geq U rfl rfl).to (v' := (.bool false)) (congrArg Value.bool (decide_eq_false h5_6))) rfl rfl ?_
                refine wr U ((rd_pick U rfl).to (v' := (.bool false)) rfl) rfl rfl ?_
                refine wz U ?_
                repeat (first|refine nt ?_|refine nq ?_|refine wq U ?_)
                refine wcd U (t := false) rfl (fun h => nomatch h) fun _ => ?_
                refine wsk U ?_
                repeat (first|refine nt ?_|refine nq ?_)
                repeat (first|refine nt ?_|refine nq ?_|refine wq U ?_)
                refine wg U ?_
                refine wr U ((ra U).to (v' := (.int .i64 0)) rfl) rfl rfl ?_
                refine wz U ?_
                refine wc_ret U ?_
                repeat (first|refine ret1 ?_|refine ret2 ?_)
                exact end1 U (.inl rfl) rfl (v := (.int .i64 0)) rfl ⟨⟨_, rfl, ⟨fun _ => by unfold EdgeI; omega, fun _ => rfl⟩⟩, hs1, by omega⟩
theorem s28 (a b : Ed) (H : Hp) (N : Nat) : Spec U 28 #[(.agg #[(.int .i64 a.1), (.int .i64 a.2.1), (.int .i64 a.2.2)]), (.agg #[(.int .i64 b.1), (.int .i64 b.2.1), (.int .i64 b.2.2)])] H N (fun v H' N' => v = .bool (decide (ltI a b)) ∧ Sub H H' ∧ N ≤ N') := by
  refine spa U pf_28 (m := 24) rfl rfl (by simp) fun hBN hlt => ?_
  obtain ⟨J, hJ⟩ := Has.ex (T := argsT #[(.agg #[(.int .i64 a.1), (.int .i64 a.2.1), (.int .i64 a.2.2)]), (.agg #[(.int .i64 b.1), (.int .i64 b.2.1), (.int .i64 b.2.2)])]) (l := [(0, (.agg #[(.int .i64 a.1), (.int .i64 a.2.1), (.int .i64 a.2.2)])), (1, (.agg #[(.int .i64 b.1), (.int .i64 b.2.1), (.int .i64 b.2.2)]))]) ⟨rfl, rfl, trivial⟩
  rw [hJ]; clear hJ
  repeat (first|refine nt ?_|refine nq ?_|refine wq U ?_)
  refine wg U ?_
  refine wl_op U rfl rfl (op_box U rfl rfl ?_)
  refine wl_op U rfl rfl (op_box U rfl rfl ?_)
  refine wr U ((ra U).to (v' := (.bool false)) rfl) rfl rfl ?_
  refine wz U ?_
  repeat (first|refine nt ?_|refine nq ?_)
  have hs1 : Sub H (hset (hset H N (.row 43 0 [(.int .i64 a.1), (.int .i64 a.2.1), (.int .i64 a.2.2)] 3)) (N + 1) (.row 43 0 [(.int .i64 b.1), (.int .i64 b.2.1), (.int .i64 b.2.2)] 3)) := ((Sub.refl H).hset (fresh hlt (by omega))).hset (fresh hlt (by omega))
  repeat (first|refine nt ?_|refine nq ?_|refine wq U ?_)
  refine wg U ?_
  refine wr U ((rfa U fb_43_0 rfl).to (v' := (.pointer (some ⟨N, 0, none⟩))) rfl) rfl rfl ?_
  refine wr U (rl1 U el_3 rfl (v := (.int .i64 a.1)) (by rw [rhn U (b := N) (c := (N + 1)) (by omega), rhq U (by omega)]; rfl)) rfl rfl ?_
  refine wr U ((rfa U fb_43_0 rfl).to (v' := (.pointer (some ⟨(N + 1), 0, none⟩))) rfl) rfl rfl ?_
  refine wr U (rl1 U el_3 rfl (v := (.int .i64 b.1)) (by rw [rhq U (by omega)]; rfl)) rfl rfl ?_
  by_cases h1_4 : a.1 < b.1
  · skip
    refine wr U ((rd_lss U rfl rfl).to (v' := (.bool true)) (congrArg Value.bool (decide_eq_true h1_4))) rfl rfl ?_
    refine wr U ((rm U).to (v' := (.bool true)) rfl) rfl rfl ?_
    refine wl_pass U rfl rfl ?_
    refine wl_pass U rfl rfl ?_
    refine wl_pass U rfl rfl ?_
    refine wl_pass U rfl rfl ?_
    refine wl_pass U rfl rfl ?_
    refine wl_pass U rfl rfl ?_
    refine wl_pass U rfl rfl ?_
    refine wl_pass U rfl rfl ?_
    refine wl_pass U rfl rfl ?_
    refine wl_pass U rfl rfl ?_
    refine wl_pass U rfl rfl ?_
    refine wl_pass U rfl rfl ?_
    refine wr U ((rd_pick U rfl).to (v' := (.bool true)) rfl) rfl rfl ?_
    refine wr U ((ra U).to (v' := (.bool true)) rfl) rfl rfl ?_
    refine wz U ?_
    refine wc_ret U ?_
    repeat (first|refine ret1 ?_|refine ret2 ?_)
    exact end1 U (.inl rfl) rfl (v := (.bool true)) rfl ⟨congrArg Value.bool (decide_eq_true (by unfold ltI; omega)).symm, hs1, by omega⟩
  · skip
    refine wr U ((rd_lss U rfl rfl).to (v' := (.bool false)) (congrArg Value.bool (decide_eq_false h1_4))) rfl rfl ?_
    refine wr U ((rm U).to (v' := (.bool false)) rfl) rfl rfl ?_
    refine wr U ((rfa U fb_43_0 rfl).to (v' := (.pointer (some ⟨N, 0, none⟩))) rfl) rfl rfl ?_
    refine wr U (rl1 U el_3 rfl (v := (.int .i64 a.1)) (by rw [rhn U (b := N) (c := (N + 1)) (by omega), rhq U (by omega)]; rfl)) rfl rfl ?_
    refine wr U ((rfa U fb_43_0 rfl).to (v' := (.pointer (some ⟨(N + 1), 0, none⟩))) rfl) rfl rfl ?_
    refine wr U (rl1 U el_3 rfl (v := (.int .i64 b.1)) (by rw [rhq U (by omega)]; rfl)) rfl rfl ?_
    by_cases h1_10 : a.1 = b.1
    · skip
      refine wr U ((rd_eql U rfl rfl).to (v' := (.bool true)) (congrArg Value.bool (decide_eq_true h1_10))) rfl rfl ?_
      refine wr U ((rm U).to (v' := (.bool true)) rfl) rfl rfl ?_
      refine wr U ((rfa U fb_43_1 rfl).to (v' := (.pointer (some ⟨N, 1, none⟩))) rfl) rfl rfl ?_
      refine wr U (rl1 U el_3 rfl (v := (.int .i64 a.2.1)) (by rw [rhn U (b := N) (c := (N + 1)) (by omega), rhq U (by omega)]; rfl)) rfl rfl ?_
      refine wr U ((rfa U fb_43_1 rfl).to (v' := (.pointer (some ⟨(N + 1), 1, none⟩))) rfl) rfl rfl ?_
      refine wr U (rl1 U el_3 rfl (v := (.int .i64 b.2.1)) (by rw [rhq U (by omega)]; rfl)) rfl rfl ?_
      by_cases h1_16 : a.2.1 < b.2.1
      · skip
        refine wr U ((rd_lss U rfl rfl).to (v' := (.bool true)) (congrArg Value.bool (decide_eq_true h1_16))) rfl rfl ?_
        refine wr U ((rd_pick U rfl).to (v' := (.bool true)) rfl) rfl rfl ?_
        refine wr U ((rd_pick U rfl).to (v' := (.bool true)) rfl) rfl rfl ?_
        refine wr U ((ra U).to (v' := (.bool true)) rfl) rfl rfl ?_
        refine wz U ?_
        refine wc_ret U ?_
        repeat (first|refine ret1 ?_|refine ret2 ?_)
        exact end1 U (.inl rfl) rfl (v := (.bool true)) rfl ⟨congrArg Value.bool (decide_eq_true (by unfold ltI; omega)).symm, hs1, by omega⟩
      · skip
        refine wr U ((rd_lss U rfl rfl).to (v' := (.bool false)) (congrArg Value.bool (decide_eq_false h1_16))) rfl rfl ?_
        refine wr U ((rd_pick U rfl).to (v' := (.bool false)) rfl) rfl rfl ?_
        refine wr U ((rd_pick U rfl).to (v' := (.bool false)) rfl) rfl rfl ?_
        refine wr U ((ra U).to (v' := (.bool false)) rfl) rfl rfl ?_
        refine wz U ?_
        refine wc_ret U ?_
        repeat (first|refine ret1 ?_|refine ret2 ?_)
        exact end1 U (.inl rfl) rfl (v := (.bool false)) rfl ⟨congrArg Value.bool (decide_eq_false (by unfold ltI; omega)).symm, hs1, by omega⟩
    · skip
      refine wr U ((rd_eql U rfl rfl).to (v' := (.bool false)) (congrArg Value.bool (decide_eq_false h1_10))) rfl rfl ?_
      refine wr U ((rm U).to (v' := (.bool false)) rfl) rfl rfl ?_
      refine wl_pass U rfl rfl ?_
      refine wl_pass U rfl rfl ?_
      refine wl_pass U rfl rfl ?_
      refine wl_pass U rfl rfl ?_
      refine wl_pass U rfl rfl ?_
      refine wr U ((rd_pick U rfl).to (v' := (.bool false)) rfl) rfl rfl ?_
      refine wr U ((rd_pick U rfl).to (v' := (.bool false)) rfl) rfl rfl ?_
      refine wr U ((ra U).to (v' := (.bool false)) rfl) rfl rfl ?_
      refine wz U ?_
      refine wc_ret U ?_
      repeat (first|refine ret1 ?_|refine ret2 ?_)
      exact end1 U (.inl rfl) rfl (v := (.bool false)) rfl ⟨congrArg Value.bool (decide_eq_false (by unfold ltI; omega)).symm, hs1, by omega⟩
theorem s15 (n : Int) (E : List Ed) (sv : Value) (hn : n ≤ 64) (hm : E.length ≤ 1000) (H : Hp) (N : Nat) (hv : RdS U H sv 3 (ecs E)) : Spec U 15 #[(.agg #[(.int .i64 n), sv])] H N (fun v H' N' => (∃ k : Int, v = .int .i64 k ∧ (k = 0 ↔ RightI n E)) ∧ Sub H H' ∧ N ≤ N') := by
  obtain ⟨p, cap, rfl, hc, hp⟩ := hv.iedges U
  refine spa U pf_15 (m := 75) rfl rfl (by simp) fun hBN hlt => ?_
  obtain ⟨J, hJ⟩ := Has.ex (T := argsT #[(.agg #[(.int .i64 n), (.slice p E.length cap)])]) (l := [(0, (.agg #[(.int .i64 n), (.slice p E.length cap)]))]) ⟨rfl, trivial⟩
  rw [hJ]; clear hJ
  repeat (first|refine nt ?_|refine nq ?_|refine wq U ?_)
  refine wg U ?_
  refine wl_op U rfl rfl (op_box U rfl rfl ?_)
  refine wr U ((ra U).to (v' := (.int .i64 0)) rfl) rfl rfl ?_
  refine wz U ?_
  repeat (first|refine nt ?_|refine nq ?_)
  refine wc_gen U (fun R => R N = some (.row 24 0 [(.int .i64 n), (.slice p E.length cap)] 2) ∧ Sub _ R) ⟨(by first|(rw [hsy]; done) | (rw [hsy]; rfl)), ((Sub.refl _).hset (fresh hlt (by omega)))⟩ ?_
  rintro R ⟨hx_1, hs⟩ hBNR hltR
  repeat (first|refine nt ?_|refine nq ?_|refine wq U ?_)
  refine wg U ?_
  refine wr U ((rfa U fb_24_0 rfl).to (v' := (.pointer (some ⟨N, 0, none⟩))) rfl) rfl rfl ?_
  refine wr U (rl1 U el_3 rfl (v := (.int .i64 n)) (by rw [rrw U (by omega) hx_1]; rfl)) rfl rfl ?_
  refine wr U ((rfa U fb_24_1 rfl).to (v' := (.pointer (some ⟨N, 1, none⟩))) rfl) rfl rfl ?_
  refine wr U (rl1 U el_22 rfl (v := (.slice p E.length cap)) (by rw [rrw U (by omega) hx_1]; rfl)) rfl rfl ?_
  refine wr U ((rd_len' U sl_22 rfl).to (v' := (.int .i64 ((E.length : Nat) : Int))) rfl) rfl rfl ?_
  refine wl_op U rfl rfl (op_call U Tryz.f26 rfl rfl pf_26 (by kernel_rfl) (by kernel_rfl) ((s26 U n E.length (by omega) (by omega) _ _).mono U ?_))
  rintro _ _ _ ⟨rfl, rfl, rfl⟩
  refine wr U ((ra U).to (v' := (.int .i64 (if n < 0 then 1 else 0))) rfl) rfl rfl ?_
  refine wz U ?_
  have hv := hv.sub U hs
  repeat (first|refine nt ?_|refine nq ?_|refine wq U ?_)
  refine wg U ?_
  refine wr U ((rm U).to (v' := (.int .i64 (if n < 0 then 1 else 0))) rfl) rfl rfl ?_
  refine wr U (rd_neq U rfl rfl) rfl rfl ?_
  refine wz U ?_
  repeat (first|refine nt ?_|refine nq ?_|refine wq U ?_)
  refine wcd U (t := (decide ((if n < 0 then 1 else 0) ≠ 0))) rfl (fun hneg => ?_) fun hneg => ?_
  · replace hneg := of_decide_eq_true hneg
    repeat (first|refine nt ?_|refine nq ?_|refine wq U ?_)
    refine wg U ?_
    refine wr U ((rm U).to (v' := (.int .i64 (if n < 0 then 1 else 0))) rfl) rfl rfl ?_
    refine wr U ((ra U).to (v' := (.int .i64 (if n < 0 then 1 else 0))) rfl) rfl rfl ?_
    refine wz U ?_
    refine wc_ret U ?_
    repeat (first|refine ret1 ?_|refine ret2 ?_)
    exact end1 U (.inl rfl) rfl (v := (.int .i64 (if n < 0 then 1 else 0))) rfl ⟨⟨_, rfl, ⟨fun h => absurd h hneg, fun h => absurd (if_neg (by have := h.1; omega)) hneg⟩⟩, hs, by omega⟩
  · replace hneg := of_decide_eq_false hneg
    have hn0 : 0 ≤ n := by by_cases h : n < 0; rw [if_pos h] at hneg; omega; omega
    refine wsk U ?_
    repeat (first|refine nt ?_|refine nq ?_)
    repeat (first|refine nt ?_|refine nq ?_|refine wq U ?_)
    refine wg U ?_
    refine wr U ((ra U).to (v' := (.int .i64 0)) rfl) rfl rfl ?_
    refine wz U ?_
    repeat (first|refine nt ?_|refine nq ?_|refine wq U ?_)
    refine wc_block U ?_
    refine wc_loop U (fun m T H' N' => ∃ k : Nat, k ≤ E.length ∧ m = E.length - k ∧ Has T [(1, (.pointer (some ⟨N, 0, none⟩))), (4, (.int .i64 ((k : Nat) : Int)))] ∧ (∀ i, i < k → edOk n E i) ∧ Sub R H' ∧ N + 1 ≤ N') E.length ⟨0, Nat.zero_le _, rfl, ⟨rfl, rfl, trivial⟩, fun i hi => by omega, Sub.refl _, Nat.le_refl _⟩ ?_
    rintro m T H1 N1 ⟨k, hk, rfl, hT, hok, hs1, hN1⟩
    obtain ⟨J, rfl⟩ := hT.ex
    refine wc_own U fun hBN1 hlt1 => ?_
    have hb1 := hs1 _ _ hx_1
    have hv1 := hv.sub U hs1
    repeat (first|refine nt ?_|refine nq ?_|refine wq U ?_)
    refine wg U ?_
    refine wr U ((rm U).to (v' := (.int .i64 ((k : Nat) : Int))) rfl) rfl rfl ?_
    refine wr U ((rfa U fb_24_1 rfl).to (v' := (.pointer (some ⟨N, 1, none⟩))) rfl) rfl rfl ?_
    refine wr U (rl1 U el_22 rfl (v := (.slice p E.length cap)) (by rw [rrw U (by omega) hb1]; rfl)) rfl rfl ?_
    refine wr U ((rd_len' U sl_22 rfl).to (v' := (.int .i64 ((E.length : Nat) : Int))) rfl) rfl rfl ?_
    refine wr U (rd_lss U rfl rfl) rfl rfl ?_
    refine wz U ?_
    repeat (first|refine nt ?_|refine nq ?_|refine wq U ?_)
    refine wcd U (t := (decide (((k : Nat) : Int) < ((E.length : Nat) : Int)))) rfl (fun hck => ?_) fun hck => ?_
    · replace hck := of_decide_eq_true hck
      refine wsk U ?_
      repeat (first|refine nt ?_|refine nq ?_)
      have hk1 : k < E.length := by omega
      obtain ⟨b, off, rfl⟩ := hp (by omega)
      repeat (first|refine nt ?_|refine nq ?_|refine wq U ?_)
      refine wc_block U ?_
      repeat (first|refine nt ?_|refine nq ?_|refine wq U ?_)
      refine wc_draw U H1 mixed ?_
      refine wh_rd U 0 rfl ((rfa U fb_24_0 rfl).to (v' := (.pointer (some ⟨N, 0, none⟩))) rfl) (by kernel_rfl) (by kernel_rfl) (by kernel_rfl) rfl rfl (Sub.refl _) ?_
      refine wh_rd U 1 rfl (rl1 U el_3 rfl (v := (.int .i64 n)) (by rw [rrw U (by omega) hb1]; rfl)) (by kernel_rfl) (by kernel_rfl) (by kernel_rfl) rfl rfl (Sub.refl _) ?_
      refine wh_rd U 2 rfl ((rfa U fb_24_1 rfl).to (v' := (.pointer (some ⟨N, 1, none⟩))) rfl) (by kernel_rfl) (by kernel_rfl) (by kernel_rfl) rfl rfl (Sub.refl _) ?_
      refine wh_rd U 3 rfl (rl1 U el_22 rfl (v := (.slice (some ⟨b, off, none⟩) E.length cap)) (by rw [rrw U (by omega) hb1]; rfl)) (by kernel_rfl) (by kernel_rfl) (by kernel_rfl) rfl rfl (Sub.refl _) ?_
      refine wh_rd U 4 rfl ((rm U).to (v' := (.int .i64 ((k : Nat) : Int))) rfl) (by kernel_rfl) (by kernel_rfl) (by kernel_rfl) rfl rfl (Sub.refl _) ?_
      refine wh_rd U 5 rfl (rd_idxN U (j := k) sl_22 rfl rfl (by omega)) (by kernel_rfl) (by kernel_rfl) (by kernel_rfl) rfl rfl (Sub.refl _) ?_
      refine wh_rd U 6 rfl (rd_load3 U el_43 rfl (v0 := (.int .i64 (E[k].1))) (v1 := (.int .i64 (E[k].2.1))) (v2 := (.int .i64 (E[k].2.2)))  (RdS.i0 U hv1 hk1) (RdS.i1 U hv1 hk1) (RdS.i2 U hv1 hk1)) (by kernel_rfl) (by kernel_rfl) (by kernel_rfl) rfl rfl (Sub.refl _) ?_
      refine wh_op U 7 (by kernel_rfl) rfl rfl rfl (op_call U Tryz.f27 rfl rfl pf_27 (by kernel_rfl) (by kernel_rfl) ((s27 U n E[k] _ _).mono U ?_))
      rintro _ H2 N2 ⟨⟨kd, rfl, hkd⟩, hs2, hN2⟩
      refine ⟨hs2, ?_⟩
      refine wh_rd U 8 rfl ((ra U).to (v' := (.int .i64 kd)) rfl) (by kernel_rfl) (by kernel_rfl) (by kernel_rfl) rfl rfl hs2 ?_
      refine wh_done U (by kernel_rfl) ?_
      have hb2 := hs2 _ _ hb1
      have hv2 := hv1.sub U hs2
      refine wc_own U fun hBN2 hlt2 => ?_
      repeat (first|refine nt ?_|refine nq ?_|refine wq U ?_)
      refine wg U ?_
      refine wr U ((rm U).to (v' := (.int .i64 kd)) rfl) rfl rfl ?_
      refine wr U (rd_neq U rfl rfl) rfl rfl ?_
      refine wz U ?_
      repeat (first|refine nt ?_|refine nq ?_|refine wq U ?_)
      refine wcd U (t := (decide (kd ≠ 0))) rfl (fun hkn => ?_) fun hkn => ?_
      · replace hkn := of_decide_eq_true hkn
        repeat (first|refine nt ?_|refine nq ?_|refine wq U ?_)
        refine wg U ?_
        refine wr U ((rm U).to (v' := (.int .i64 kd)) rfl) rfl rfl ?_
        refine wr U ((ra U).to (v' := (.int .i64 kd)) rfl) rfl rfl ?_
        refine wz U ?_
        refine wc_ret U ?_
        repeat (first|refine ret1 ?_|refine ret2 ?_)
        exact end1 U (.inl rfl) rfl (v := (.int .i64 kd)) rfl ⟨⟨_, rfl, ⟨fun h => absurd h hkn, fun h => absurd (hkd.2 (h.2 k hk1 hk1).1) hkn⟩⟩, hs.trans (hs1.trans hs2), by omega⟩
      · replace hkn := of_decide_eq_false hkn
        have hed := hkd.1 (by omega)
        refine wsk U ?_
        repeat (first|refine nt ?_|refine nq ?_)
        repeat (first|refine nt ?_|refine nq ?_|refine wq U ?_)
        refine wc_draw U H2 mixed ?_
        refine wh_rd U 0 rfl ((rfa U fb_24_1 rfl).to (v' := (.pointer (some ⟨N, 1, none⟩))) rfl) (by kernel_rfl) (by kernel_rfl) (by kernel_rfl) rfl rfl (Sub.refl _) ?_
        refine wh_rd U 1 rfl (rl1 U el_22 rfl (v := (.slice (some ⟨b, off, none⟩) E.length cap)) (by rw [rrw U (by omega) hb2]; rfl)) (by kernel_rfl) (by kernel_rfl) (by kernel_rfl) rfl rfl (Sub.refl _) ?_
        refine wh_rd U 2 rfl ((rm U).to (v' := (.int .i64 ((k : Nat) : Int))) rfl) (by kernel_rfl) (by kernel_rfl) (by kernel_rfl) rfl rfl (Sub.refl _) ?_
        refine wh_rd U 3 rfl (rd_idxN U (j := k) sl_22 rfl rfl (by omega)) (by kernel_rfl) (by kernel_rfl) (by kernel_rfl) rfl rfl (Sub.refl _) ?_
        refine wh_rd U 4 rfl ((rfa U fb_43_0 rfl).to (v' := (.pointer (some ⟨b, off + k * 3 + 0, none⟩))) rfl) (by kernel_rfl) (by kernel_rfl) (by kernel_rfl) rfl rfl (Sub.refl _) ?_
        refine wh_rd U 5 rfl (rl1 U el_3 rfl (v := (.int .i64 (E[k].1))) (RdS.i0 U hv2 hk1)) (by kernel_rfl) (by kernel_rfl) (by kernel_rfl) rfl rfl (Sub.refl _) ?_
        refine wh_rd U 6 rfl ((rfa U fb_24_1 rfl).to (v' := (.pointer (some ⟨N, 1, none⟩))) rfl) (by kernel_rfl) (by kernel_rfl) (by kernel_rfl) rfl rfl (Sub.refl _) ?_
        refine wh_rd U 7 rfl (rl1 U el_22 rfl (v := (.slice (some ⟨b, off, none⟩) E.length cap)) (by rw [rrw U (by omega) hb2]; rfl)) (by kernel_rfl) (by kernel_rfl) (by kernel_rfl) rfl rfl (Sub.refl _) ?_
        refine wh_rd U 8 rfl ((rm U).to (v' := (.int .i64 ((k : Nat) : Int))) rfl) (by kernel_rfl) (by kernel_rfl) (by kernel_rfl) rfl rfl (Sub.refl _) ?_
        refine wh_rd U 9 rfl (rd_idxN U (j := k) sl_22 rfl rfl (by omega)) (by kernel_rfl) (by kernel_rfl) (by kernel_rfl) rfl rfl (Sub.refl _) ?_
        refine wh_rd U 10 rfl ((rfa U fb_43_1 rfl).to (v' := (.pointer (some ⟨b, off + k * 3 + 1, none⟩))) rfl) (by kernel_rfl) (by kernel_rfl) (by kernel_rfl) rfl rfl (Sub.refl _) ?_
        refine wh_rd U 11 rfl (rl1 U el_3 rfl (v := (.int .i64 (E[k].2.1))) (RdS.i1 U hv2 hk1)) (by kernel_rfl) (by kernel_rfl) (by kernel_rfl) rfl rfl (Sub.refl _) ?_
        refine wh_rd U 12 rfl (rd_gtr U rfl rfl) (by kernel_rfl) (by kernel_rfl) (by kernel_rfl) rfl rfl (Sub.refl _) ?_
        refine wh_done U (by kernel_rfl) ?_
        repeat (first|refine nt ?_|refine nq ?_|refine wq U ?_)
        refine wcd U (t := (decide (E[k].2.1 < E[k].1))) rfl (fun hgt => ?_) fun hgt => ?_
        · replace hgt := of_decide_eq_true hgt
          repeat (first|refine nt ?_|refine nq ?_|refine wq U ?_)
          refine wg U ?_
          refine wr U ((ra U).to (v' := (.int .i64 1)) rfl) rfl rfl ?_
          refine wz U ?_
          refine wc_ret U ?_
          repeat (first|refine ret1 ?_|refine ret2 ?_)
          exact end1 U (.inl rfl) rfl (v := (.int .i64 1)) rfl ⟨⟨_, rfl, ⟨fun h => absurd h (by decide), fun h => by have := (h.2 k hk1 hk1).2.1; omega⟩⟩, hs.trans (hs1.trans hs2), by omega⟩
        · replace hgt := of_decide_eq_false hgt
          refine wsk U ?_
          repeat (first|refine nt ?_|refine nq ?_)
          repeat (first|refine nt ?_|refine nq ?_|refine wq U ?_)
          refine wc_draw U H2 mixed ?_
          refine wh_rd U 0 rfl ((rm U).to (v' := (.int .i64 ((k : Nat) : Int))) rfl) (by kernel_rfl) (by kernel_rfl) (by kernel_rfl) rfl rfl (Sub.refl _) ?_
          by_cases h12_1 : 0 < ((k : Nat) : Int)
          · skip
            refine wh_rd U 1 rfl ((rd_gtr U rfl rfl).to (v' := (.bool true)) (congrArg Value.bool (decide_eq_true h12_1))) (by kernel_rfl) (by kernel_rfl) (by kernel_rfl) rfl rfl (Sub.refl _) ?_
            refine wh_rd U 2 rfl ((rm U).to (v' := (.bool true)) rfl) (by kernel_rfl) (by kernel_rfl) (by kernel_rfl) rfl rfl (Sub.refl _) ?_
            refine wh_rd U 3 rfl ((rfa U fb_24_1 rfl).to (v' := (.pointer (some ⟨N, 1, none⟩))) rfl) (by kernel_rfl) (by kernel_rfl) (by kernel_rfl) rfl rfl (Sub.refl _) ?_
            refine wh_rd U 4 rfl (rl1 U el_22 rfl (v := (.slice (some ⟨b, off, none⟩) E.length cap)) (by rw [rrw U (by omega) hb2]; rfl)) (by kernel_rfl) (by kernel_rfl) (by kernel_rfl) rfl rfl (Sub.refl _) ?_
            refine wh_rd U 5 rfl ((rm U).to (v' := (.int .i64 ((k : Nat) : Int))) rfl) (by kernel_rfl) (by kernel_rfl) (by kernel_rfl) rfl rfl (Sub.refl _) ?_
            refine wh_rd U 6 rfl (rd_sub' U rfl rfl (by omega) (by omega)) (by kernel_rfl) (by kernel_rfl) (by kernel_rfl) rfl rfl (Sub.refl _) ?_
            have hk0 : k - 1 < E.length := by omega
            refine wh_rd U 7 rfl (rd_idxI U (k-1) sl_22 rfl rfl (by omega) hk0) (by kernel_rfl) (by kernel_rfl) (by kernel_rfl) rfl rfl (Sub.refl _) ?_
            refine wh_rd U 8 rfl (rd_load3 U el_43 rfl (v0 := (.int .i64 (E[k-1].1))) (v1 := (.int .i64 (E[k-1].2.1))) (v2 := (.int .i64 (E[k-1].2.2)))  (RdS.i0 U hv2 hk0) (RdS.i1 U hv2 hk0) (RdS.i2 U hv2 hk0)) (by kernel_rfl) (by kernel_rfl) (by kernel_rfl) rfl rfl (Sub.refl _) ?_
            refine wh_rd U 9 rfl ((rfa U fb_24_1 rfl).to (v' := (.pointer (some ⟨N, 1, none⟩))) rfl) (by kernel_rfl) (by kernel_rfl) (by kernel_rfl) rfl rfl (Sub.refl _) ?_
            refine wh_rd U 10 rfl (rl1 U el_22 rfl (v := (.slice (some ⟨b, off, none⟩) E.length cap)) (by rw [rrw U (by omega) hb2]; rfl)) (by kernel_rfl) (by kernel_rfl) (by kernel_rfl) rfl rfl (Sub.refl _) ?_
            refine wh_rd U 11 rfl ((rm U).to (v' := (.int .i64 ((k : Nat) : Int))) rfl) (by kernel_rfl) (by kernel_rfl) (by kernel_rfl) rfl rfl (Sub.refl _) ?_
            refine wh_rd U 12 rfl (rd_idxN U (j := k) sl_22 rfl rfl hk1) (by kernel_rfl) (by kernel_rfl) (by kernel_rfl) rfl rfl (Sub.refl _) ?_
            refine wh_rd U 13 rfl (rd_load3 U el_43 rfl (v0 := (.int .i64 (E[k].1))) (v1 := (.int .i64 (E[k].2.1))) (v2 := (.int .i64 (E[k].2.2)))  (RdS.i0 U hv2 hk1) (RdS.i1 U hv2 hk1) (RdS.i2 U hv2 hk1)) (by kernel_rfl) (by kernel_rfl) (by kernel_rfl) rfl rfl (Sub.refl _) ?_
            refine wh_op U 14 (by kernel_rfl) rfl rfl rfl (op_call U Tryz.f28 rfl rfl pf_28 (by kernel_rfl) (by kernel_rfl) ((s28 U E[k-1] E[k] _ _).mono U ?_))
            rintro _ H3 N3 ⟨rfl, hs3, hN3⟩
            refine ⟨hs3, ?_⟩
            obtain ⟨lb, hlb⟩ : ∃ b, decide (ltI E[k-1] E[k]) = b := ⟨_, rfl⟩
            rw [hlb]
            cases lb
            · skip
              refine wh_rd U 15 rfl ((rd_not U rfl).to (v' := (.bool true)) rfl) (by kernel_rfl) (by kernel_rfl) (by kernel_rfl) rfl rfl hs3 ?_
              refine wh_rd U 16 rfl ((rd_pick U rfl).to (v' := (.bool true)) rfl) (by kernel_rfl) (by kernel_rfl) (by kernel_rfl) rfl rfl hs3 ?_
              refine wh_done U (by kernel_rfl) ?_
              repeat (first|refine nt ?_|refine nq ?_|refine wq U ?_)
              refine wcd U (t := true) rfl (fun _ => ?_) (fun h => nomatch h)
              have hv3 := hv2.sub U hs3
              have hb3 := hs3 _ _ hb2
              repeat (first|refine nt ?_|refine nq ?_|refine wq U ?_)
              refine wc_draw U H3 mixed ?_
              refine wh_rd U 0 rfl ((rfa U fb_24_1 rfl).to (v' := (.pointer (some ⟨N, 1, none⟩))) rfl) (by kernel_rfl) (by kernel_rfl) (by kernel_rfl) rfl rfl (Sub.refl _) ?_
              refine wh_rd U 1 rfl (rl1 U el_22 rfl (v := (.slice (some ⟨b, off, none⟩) E.length cap)) (by rw [rrw U (by omega) hb3]; rfl)) (by kernel_rfl) (by kernel_rfl) (by kernel_rfl) rfl rfl (Sub.refl _) ?_
              refine wh_rd U 2 rfl ((rm U).to (v' := (.int .i64 ((k : Nat) : Int))) rfl) (by kernel_rfl) (by kernel_rfl) (by kernel_rfl) rfl rfl (Sub.refl _) ?_
              refine wh_rd U 3 rfl (rd_idxN U (j := k) sl_22 rfl rfl (by omega)) (by kernel_rfl) (by kernel_rfl) (by kernel_rfl) rfl rfl (Sub.refl _) ?_
              refine wh_rd U 4 rfl (rd_load3 U el_43 rfl (v0 := (.int .i64 (E[k].1))) (v1 := (.int .i64 (E[k].2.1))) (v2 := (.int .i64 (E[k].2.2)))  (RdS.i0 U hv3 hk1) (RdS.i1 U hv3 hk1) (RdS.i2 U hv3 hk1)) (by kernel_rfl) (by kernel_rfl) (by kernel_rfl) rfl rfl (Sub.refl _) ?_
              refine wh_rd U 5 rfl ((rfa U fb_24_1 rfl).to (v' := (.pointer (some ⟨N, 1, none⟩))) rfl) (by kernel_rfl) (by kernel_rfl) (by kernel_rfl) rfl rfl (Sub.refl _) ?_
              refine wh_rd U 6 rfl (rl1 U el_22 rfl (v := (.slice (some ⟨b, off, none⟩) E.length cap)) (by rw [rrw U (by omega) hb3]; rfl)) (by kernel_rfl) (by kernel_rfl) (by kernel_rfl) rfl rfl (Sub.refl _) ?_
              refine wh_rd U 7 rfl ((rm U).to (v' := (.int .i64 ((k : Nat) : Int))) rfl) (by kernel_rfl) (by kernel_rfl) (by kernel_rfl) rfl rfl (Sub.refl _) ?_
              refine wh_rd U 8 rfl (rd_sub' U rfl rfl (by omega) (by omega)) (by kernel_rfl) (by kernel_rfl) (by kernel_rfl) rfl rfl (Sub.refl _) ?_
              refine wh_rd U 9 rfl (rd_idxI U (k-1) sl_22 rfl rfl (by omega) hk0) (by kernel_rfl) (by kernel_rfl) (by kernel_rfl) rfl rfl (Sub.refl _) ?_
              refine wh_rd U 10 rfl (rd_load3 U el_43 rfl (v0 := (.int .i64 (E[k-1].1))) (v1 := (.int .i64 (E[k-1].2.1))) (v2 := (.int .i64 (E[k-1].2.2)))  (RdS.i0 U hv3 hk0) (RdS.i1 U hv3 hk0) (RdS.i2 U hv3 hk0)) (by kernel_rfl) (by kernel_rfl) (by kernel_rfl) rfl rfl (Sub.refl _) ?_
              refine wh_op U 11 (by kernel_rfl) rfl rfl rfl (op_call U Tryz.f28 rfl rfl pf_28 (by kernel_rfl) (by kernel_rfl) ((s28 U E[k] E[k-1] _ _).mono U ?_))
              rintro _ H4 N4 ⟨rfl, hs4, hN4⟩
              refine ⟨hs4, ?_⟩
              refine wh_done U (by kernel_rfl) ?_
              repeat (first|refine nt ?_|refine nq ?_|refine wq U ?_)
              refine wcd U (t := (decide (ltI E[k] E[k-1]))) rfl (fun hb5 => ?_) fun hb5 => ?_
              · replace hb5 := of_decide_eq_true hb5
                repeat (first|refine nt ?_|refine nq ?_|refine wq U ?_)
                refine wg U ?_
                refine wr U ((ra U).to (v' := (.int .i64 1)) rfl) rfl rfl ?_
                refine wz U ?_
                refine wc_ret U ?_
                repeat (first|refine ret1 ?_|refine ret2 ?_)
                exact end1 U (.inl rfl) rfl (v := (.int .i64 1)) rfl ⟨⟨_, rfl, ⟨fun h => absurd h (by decide), fun h => absurd ((h.2 k hk1 hk1).2.2 (by omega)) (of_decide_eq_false hlb)⟩⟩, hs.trans (hs1.trans (hs2.trans (hs3.trans hs4))), by omega⟩
              · replace hb5 := of_decide_eq_false hb5
                refine wsk U ?_
                repeat (first|refine nt ?_|refine nq ?_)
                repeat (first|refine nt ?_|refine nq ?_|refine wq U ?_)
                refine wg U ?_
                refine wr U ((ra U).to (v' := (.int .i64 7)) rfl) rfl rfl ?_
                refine wz U ?_
                refine wc_ret U ?_
                repeat (first|refine ret1 ?_|refine ret2 ?_)
                exact end1 U (.inl rfl) rfl (v := (.int .i64 7)) rfl ⟨⟨_, rfl, ⟨fun h => absurd h (by decide), fun h => absurd ((h.2 k hk1 hk1).2.2 (by omega)) (of_decide_eq_false hlb)⟩⟩, hs.trans (hs1.trans (hs2.trans (hs3.trans hs4))), by omega⟩
            · skip
              refine wh_rd U 15 rfl ((rd_not U rfl).to (v' := (.bool false)) rfl) (by kernel_rfl) (by kernel_rfl) (by kernel_rfl) rfl rfl hs3 ?_
              refine wh_rd U 16 rfl ((rd_pick U rfl).to (v' := (.bool false)) rfl) (by kernel_rfl) (by kernel_rfl) (by kernel_rfl) rfl rfl hs3 ?_
              refine wh_done U (by kernel_rfl) ?_
              repeat (first|refine nt ?_|refine nq ?_|refine wq U ?_)
              refine wcd U (t := false) rfl (fun h => nomatch h) fun _ => ?_
              refine wsk U ?_
              repeat (first|refine nt ?_|refine nq ?_)
              repeat (first|refine nt ?_|refine nq ?_|refine wq U ?_)
              refine wg U ?_
              refine wr U ((rm U).to (v' := (.int .i64 ((k : Nat) : Int))) rfl) rfl rfl ?_
              refine wr U (rd_add U rfl rfl (by omega) (by omega)) rfl rfl ?_
              refine wr U ((ra U).to (v' := (.int .i64 (((k : Nat) : Int) + 1))) rfl) rfl rfl ?_
              refine wz U ?_
              repeat (first|refine nt ?_|refine nq ?_)
              refine ⟨E.length - (k + 1), by omega, k + 1, by omega, rfl, ⟨rfl, rfl, trivial⟩, fun i hi => ?_, hs1.trans (hs2.trans hs3), by omega⟩
              rcases Nat.lt_or_ge i k with h | h
              · exact hok i h
              · obtain rfl : i = k := by omega
                exact fun _ => ⟨hed, by omega, fun _ => of_decide_eq_true hlb⟩
          · skip
            refine wh_rd U 1 rfl ((rd_gtr U rfl rfl).to (v' := (.bool false)) (congrArg Value.bool (decide_eq_false h12_1))) (by kernel_rfl) (by kernel_rfl) (by kernel_rfl) rfl rfl (Sub.refl _) ?_
            refine wh_rd U 2 rfl ((rm U).to (v' := (.bool false)) rfl) (by kernel_rfl) (by kernel_rfl) (by kernel_rfl) rfl rfl (Sub.refl _) ?_
            refine wh_skip U 3 rfl (by kernel_rfl) (by kernel_rfl) (by kernel_rfl) rfl rfl (Sub.refl _) ?_
            refine wh_skip U 4 rfl (by kernel_rfl) (by kernel_rfl) (by kernel_rfl) rfl rfl (Sub.refl _) ?_
            refine wh_skip U 5 rfl (by kernel_rfl) (by kernel_rfl) (by kernel_rfl) rfl rfl (Sub.refl _) ?_
            refine wh_skip U 6 rfl (by kernel_rfl) (by kernel_rfl) (by kernel_rfl) rfl rfl (Sub.refl _) ?_
            refine wh_skip U 7 rfl (by kernel_rfl) (by kernel_rfl) (by kernel_rfl) rfl rfl (Sub.refl _) ?_
            refine wh_skip U 8 rfl (by kernel_rfl) (by kernel_rfl) (by kernel_rfl) rfl rfl (Sub.refl _) ?_
            refine wh_skip U 9 rfl (by kernel_rfl) (by kernel_rfl) (by kernel_rfl) rfl rfl (Sub.refl _) ?_
            refine wh_skip U 10 rfl (by kernel_rfl) (by kernel_rfl) (by kernel_rfl) rfl rfl (Sub.refl _) ?_
            refine wh_skip U 11 rfl (by kernel_rfl) (by kernel_rfl) (by kernel_rfl) rfl rfl (Sub.refl _) ?_
            refine wh_skip U 12 rfl (by kernel_rfl) (by kernel_rfl) (by kernel_rfl) rfl rfl (Sub.refl _) ?_
            refine wh_skip U 13 rfl (by kernel_rfl) (by kernel_rfl) (by kernel_rfl) rfl rfl (Sub.refl _) ?_
            refine wh_skip U 14 rfl (by kernel_rfl) (by kernel_rfl) (by kernel_rfl) rfl rfl (Sub.refl _) ?_
            refine wh_skip U 15 rfl (by kernel_rfl) (by kernel_rfl) (by kernel_rfl) rfl rfl (Sub.refl _) ?_
            refine wh_rd U 16 rfl ((rd_pick U rfl).to (v' := (.bool false)) rfl) (by kernel_rfl) (by kernel_rfl) (by kernel_rfl) rfl rfl (Sub.refl _) ?_
            refine wh_done U (by kernel_rfl) ?_
            repeat (first|refine nt ?_|refine nq ?_|refine wq U ?_)
            refine wcd U (t := false) rfl (fun h => nomatch h) fun _ => ?_
            refine wsk U ?_
            repeat (first|refine nt ?_|refine nq ?_)
            repeat (first|refine nt ?_|refine nq ?_|refine wq U ?_)
            refine wg U ?_
            refine wr U ((rm U).to (v' := (.int .i64 ((k : Nat) : Int))) rfl) rfl rfl ?_
            refine wr U (rd_add U rfl rfl (by omega) (by omega)) rfl rfl ?_
            refine wr U ((ra U).to (v' := (.int .i64 (((k : Nat) : Int) + 1))) rfl) rfl rfl ?_
            refine wz U ?_
            repeat (first|refine nt ?_|refine nq ?_)
            refine ⟨E.length - (k + 1), by omega, k + 1, by omega, rfl, ⟨rfl, rfl, trivial⟩, fun i hi => ?_, hs1.trans hs2, by omega⟩
            rcases Nat.lt_or_ge i k with h | h
            · exact hok i h
            · obtain rfl : i = k := by omega
              exact fun _ => ⟨hed, by omega, fun h0 => absurd h0 (by omega)⟩
    · replace hck := of_decide_eq_false hck
      refine wc_exit U ?_
      repeat (first|refine xt ?_|refine xps (by decide) ?_)
      refine xbl ?_
      repeat (first|refine nt ?_|refine nq ?_)
      repeat (first|refine nt ?_|refine nq ?_|refine wq U ?_)
      refine wg U ?_
      refine wr U ((ra U).to (v' := (.int .i64 0)) rfl) rfl rfl ?_
      refine wz U ?_
      refine wc_ret U ?_
      repeat (first|refine ret1 ?_|refine ret2 ?_)
      exact end1 U (.inl rfl) rfl (v := (.int .i64 0)) rfl ⟨⟨_, rfl, ⟨fun _ => ⟨hn0, fun i hi => hok i (by omega)⟩, fun _ => rfl⟩⟩, hs.trans hs1, by omega⟩
end Go.Proofs.YtdmodppoellbkaaGreat
namespace Go.Proofs.YtdmodppoellbkaaGreat
open Go Go.RowKit
variable (U : Cx)
instance (E : List NE) (u v : Nat) : Decidable (adj E u v) := inferInstanceAs (Decidable (∃ e ∈ E, (e.1 = u ∧ e.2.1 = v) ∨ (e.1 = v ∧ e.2.1 = u)))
def nrL (E : List NE) (a j : Nat) : List Nat := (List.range j).filter fun v => decide (adj E a v)
theorem nrL_succ (E : List NE) (a j : Nat) : nrL E a (j + 1) = nrL E a j ++ if adj E a j then [j] else [] := by
  unfold nrL; rw [List.range_succ, List.filter_append]; congr 1
  by_cases h : adj E a j <;> simp [h]
theorem nrL_len (E : List NE) (a j : Nat) : (nrL E a j).length ≤ j := by have := List.length_filter_le (fun v => decide (adj E a v)) (List.range j); rw [List.length_range] at this; exact this
theorem getD_set0 (X : List (List Nat)) (u a : Nat) (y : List Nat) (hu : u < X.length) : (X.set u y).getD a [] = if a = u then y else X.getD a [] := by
  simp only [List.getD_eq_getElem?_getD, List.getElem?_set]
  by_cases h : u = a
  · subst h; simp [hu]
  · rw [if_neg h, if_neg (Ne.symm h)]
structure NrP (n : Nat) (E : List NE) (i j : Nat) (X : List (List Nat)) : Prop where
  len : X.length = n
  lo : ∀ a, a < i → X.getD a [] = nrL E a n
  at_ : X.getD i [] = nrL E i j
  hi : ∀ a, i < a → X.getD a [] = []
theorem NrP.nil (n : Nat) (E : List NE) : NrP n E 0 0 (List.replicate n []) := ⟨by simp, fun a h => by omega, by simp [nrL, List.getD_eq_getElem?_getD, List.getElem?_replicate]; split <;> rfl, fun a h => by simp [List.getD_eq_getElem?_getD, List.getElem?_replicate]; split <;> rfl⟩
theorem NrP.small {n : Nat} {E : List NE} {i j : Nat} {X : List (List Nat)} (h : NrP n E i j X) (hn : n ≤ 64) (hj : j ≤ n) : ∀ xs ∈ X, xs.length ≤ 2000 := by
  intro xs hx
  obtain ⟨a, ha, rfl⟩ := List.mem_iff_getElem.1 hx
  have e : X[a] = X.getD a [] := by simp [List.getD_eq_getElem?_getD, ha]
  rw [e]
  rcases Nat.lt_trichotomy a i with h1 | rfl | h1
  · rw [h.lo a h1]; have := nrL_len E a n; omega
  · rw [h.at_]; have := nrL_len E a j; omega
  · rw [h.hi a h1]; simp
theorem NrP.no {n : Nat} {E : List NE} {i j : Nat} {X : List (List Nat)} (h : NrP n E i j X) (ha : ¬ adj E i j) : NrP n E i (j + 1) X := ⟨h.len, h.lo, by rw [h.at_, nrL_succ, if_neg ha, List.append_nil], h.hi⟩
theorem NrP.yes {n : Nat} {E : List NE} {i j : Nat} {X : List (List Nat)} (h : NrP n E i j X) (hi : i < n) (ha : adj E i j) : NrP n E i (j + 1) (addN X i j) := by
  have hl := h.len
  refine ⟨by rw [addN_length]; exact h.len, fun a h1 => ?_, ?_, fun a h1 => ?_⟩
  · rw [addN, getD_set0 _ _ _ _ (by omega), if_neg (by omega)]; exact h.lo a h1
  · rw [addN, getD_set0 _ _ _ _ (by omega), if_pos rfl, h.at_, nrL_succ, if_pos ha]
  · rw [addN, getD_set0 _ _ _ _ (by omega), if_neg (by omega)]; exact h.hi a h1
theorem NrP.next {n : Nat} {E : List NE} {i : Nat} {X : List (List Nat)} (h : NrP n E i n X) : NrP n E (i + 1) 0 X :=
  ⟨h.len, fun a h1 => by rcases Nat.lt_or_ge a i with h2 | h2; exact h.lo a h2; obtain rfl : a = i := by omega
                         exact h.at_, by rw [h.hi _ (by omega)]; rfl, fun a h1 => h.hi a (by omega)⟩
theorem NrP.all {n : Nat} {E : List NE} {X : List (List Nat)} (h : NrP n E n 0 X) : X = (List.range n).map fun a => nrL E a n := by
  have hl := h.len
  apply List.ext_getElem
  · simp [h.len]
  · intro a h1 h2
    have := h.lo a (by omega)
    simp only [List.getElem_map, List.getElem_range]
    rw [← this]; simp [List.getD_eq_getElem?_getD, h1]
theorem IsSl.sub' {H H2 : Hp} {v : Value} {e sz : Nat} {cs : List Value} (h : IsSl H v e sz cs) (hs : Sub H H2) : IsSl H2 v e sz cs := by
  rcases h with h | ⟨b, off, k, cap, tot, h1, h2, h3⟩
  · exact .inl h
  · exact .inr ⟨b, off, k, cap, tot, h1, hs _ _ h2, h3⟩
theorem Famo.mono {R H H2 : Hp} {b e0 e sz n N N2 : Nat} {vs : List Value} {css : List (List Value)} (h : Famo R H b e0 e sz n N vs css) (hs : Sub H H2) (hN : N ≤ N2) : Famo R H2 b e0 e sz n N2 vs css :=
  ⟨⟨h.fam.len, fun i v cs hv hc => (h.fam.sl i v cs hv hc).sub' hs, fun i v c hv hb => ⟨(h.fam.gt i v c hv hb).1, by have := (h.fam.gt i v c hv hb).2; omega⟩, h.fam.ne⟩, hs _ _ h.row, h.len, h.sub.trans hs, by have := h.lt; omega⟩
theorem s16 (l : List Int) (x : Int) (sv : Value) (hl : l.length ≤ 100000) (H : Hp) (N : Nat) (hv : RdS U H sv 1 (ints l)) : Spec U 16 #[sv, (.int .i64 x)] H N (fun v H' N' => v = .bool (decide (x ∈ l)) ∧ H = H' ∧ N = N') := by
  obtain ⟨p, cap, rfl, hc, hp⟩ := hv.cells1 U
  have hil := ints_length l
  refine spa U pf_16 (m := 18) rfl rfl (by simp) fun hBN hlt => ?_
  obtain ⟨J, hJ⟩ := Has.ex (T := argsT #[(.slice p ((ints l).length) cap), (.int .i64 x)]) (l := [(0, (.slice p ((ints l).length) cap)), (1, (.int .i64 x))]) ⟨rfl, rfl, trivial⟩
  rw [hJ]; clear hJ
  repeat (first|refine nt ?_|refine nq ?_|refine wq U ?_)
  refine wg U ?_
  refine wr U ((ra U).to (v' := (.bool false)) rfl) rfl rfl ?_
  refine wz U ?_
  repeat (first|refine nt ?_|refine nq ?_|refine wq U ?_)
  refine wg U ?_
  refine wr U ((ra U).to (v' := (.int .i64 0)) rfl) rfl rfl ?_
  refine wz U ?_
  repeat (first|refine nt ?_|refine nq ?_|refine wq U ?_)
  refine wc_block U ?_
  refine wc_loop U (fun m T H' N' => ∃ (i : Nat), i ≤ l.length ∧ m = l.length - i ∧ Has T [(0, (.slice p ((ints l).length) cap)), (1, (.int .i64 x)), (5, (.int .i64 ((i : Nat) : Int)))] ∧ x ∉ l.take i ∧ H = H' ∧ N = N') l.length ⟨0, Nat.zero_le _, rfl, ⟨rfl, rfl, rfl, trivial⟩, by simp, rfl, rfl⟩ ?_
  rintro m T _ _ ⟨i, hi, rfl, hT, hno, rfl, rfl⟩
  obtain ⟨J, rfl⟩ := hT.ex
  repeat (first|refine nt ?_|refine nq ?_|refine wq U ?_)
  refine wg U ?_
  refine wr U ((rm U).to (v' := (.int .i64 ((i : Nat) : Int))) rfl) rfl rfl ?_
  refine wr U ((rm U).to (v' := (.slice p ((ints l).length) cap)) rfl) rfl rfl ?_
  refine wr U ((rd_len' U sl_26 rfl).to (v' := (.int .i64 (((ints l).length : Nat) : Int))) rfl) rfl rfl ?_
  refine wr U (rd_lss U rfl rfl) rfl rfl ?_
  refine wz U ?_
  repeat (first|refine nt ?_|refine nq ?_|refine wq U ?_)
  refine wcd U (t := (decide (((i : Nat) : Int) < (((ints l).length : Nat) : Int)))) rfl (fun hck => ?_) fun hck => ?_
  · replace hck := of_decide_eq_true hck
    refine wsk U ?_
    repeat (first|refine nt ?_|refine nq ?_)
    have hi1 : i < l.length := by omega
    obtain ⟨eb, eoff, rfl⟩ := hp (by omega)
    repeat (first|refine nt ?_|refine nq ?_|refine wq U ?_)
    refine wc_block U ?_
    repeat (first|refine nt ?_|refine nq ?_|refine wq U ?_)
    refine wg U ?_
    refine wr U ((rm U).to (v' := (.slice (some ⟨eb, eoff, none⟩) ((ints l).length) cap)) rfl) rfl rfl ?_
    refine wr U ((rm U).to (v' := (.int .i64 ((i : Nat) : Int))) rfl) rfl rfl ?_
    refine wr U (rd_idx1 U (j := i) sl_26 rfl rfl (by omega)) rfl rfl ?_
    refine wr U (rl1 U el_3 rfl (v := (.int .i64 (l[i]))) (hv.get U (ints_get hi1))) rfl rfl ?_
    refine wr U ((rm U).to (v' := (.int .i64 x)) rfl) rfl rfl ?_
    refine wr U (rd_eql U rfl rfl) rfl rfl ?_
    refine wz U ?_
    repeat (first|refine nt ?_|refine nq ?_|refine wq U ?_)
    refine wcd U (t := (decide (l[i] = x))) rfl (fun he => ?_) fun he => ?_
    · replace he := of_decide_eq_true he
      repeat (first|refine nt ?_|refine nq ?_|refine wq U ?_)
      refine wg U ?_
      refine wr U ((ra U).to (v' := (.bool true)) rfl) rfl rfl ?_
      refine wz U ?_
      refine wc_ret U ?_
      repeat (first|refine ret1 ?_|refine ret2 ?_)
      exact end1 U (.inl rfl) rfl (v := (.bool true)) rfl ⟨congrArg Value.bool (decide_eq_true (he ▸ List.getElem_mem hi1)).symm, rfl, rfl⟩
    · replace he := of_decide_eq_false he
      refine wsk U ?_
      repeat (first|refine nt ?_|refine nq ?_)
      repeat (first|refine nt ?_|refine nq ?_|refine wq U ?_)
      refine wg U ?_
      refine wr U ((rm U).to (v' := (.int .i64 ((i : Nat) : Int))) rfl) rfl rfl ?_
      refine wr U (rd_add U rfl rfl (by omega) (by omega)) rfl rfl ?_
      refine wr U ((ra U).to (v' := (.int .i64 (((i : Nat) : Int) + 1))) rfl) rfl rfl ?_
      refine wz U ?_
      repeat (first|refine nt ?_|refine nq ?_)
      exact ⟨l.length - (i + 1), by omega, i + 1, by omega, rfl, ⟨rfl, rfl, rfl, trivial⟩, by rw [List.take_succ_eq_append_getElem hi1, List.mem_append, List.mem_singleton]; rintro (h | h); exact hno h; exact he h.symm, rfl, rfl⟩
  · replace hck := of_decide_eq_false hck
    refine wc_exit U ?_
    repeat (first|refine xt ?_|refine xps (by decide) ?_)
    refine xbl ?_
    repeat (first|refine nt ?_|refine nq ?_)
    repeat (first|refine nt ?_|refine nq ?_|refine wq U ?_)
    refine wg U ?_
    refine wr U ((ra U).to (v' := (.bool false)) rfl) rfl rfl ?_
    refine wz U ?_
    rw [List.take_of_length_le (by omega)] at hno
    refine wc_ret U ?_
    repeat (first|refine ret1 ?_|refine ret2 ?_)
    exact end1 U (.inl rfl) rfl (v := (.bool false)) rfl ⟨congrArg Value.bool (decide_eq_false hno).symm, rfl, rfl⟩
theorem s46 (n : Nat) (E : List NE) (sv : Value) (u v : Nat) (hg : GOk n E) (H : Hp) (N : Nat) (hv : RdS U H sv 3 (necs E)) : Spec U 46 #[(.agg #[(.int .i64 ((n : Nat) : Int)), sv]), (.int .i64 ((u : Nat) : Int)), (.int .i64 ((v : Nat) : Int))] H N (fun vv H' N' => (∃ r : Int, vv = .int .i64 r ∧ (0 ≤ r ↔ adj E u v)) ∧ Sub H H' ∧ N ≤ N') := by
  obtain ⟨p, cap, rfl, hc, hp⟩ := hv.edges U
  refine spa U pf_46 (m := 54) rfl rfl (by simp) fun hBN hlt => ?_
  obtain ⟨J, hJ⟩ := Has.ex (T := argsT #[(.agg #[(.int .i64 ((n : Nat) : Int)), (.slice p E.length cap)]), (.int .i64 ((u : Nat) : Int)), (.int .i64 ((v : Nat) : Int))]) (l := [(0, (.agg #[(.int .i64 ((n : Nat) : Int)), (.slice p E.length cap)])), (1, (.int .i64 ((u : Nat) : Int))), (2, (.int .i64 ((v : Nat) : Int)))]) ⟨rfl, rfl, rfl, trivial⟩
  rw [hJ]; clear hJ
  have hm := hg.hm
  repeat (first|refine nt ?_|refine nq ?_|refine wq U ?_)
  refine wg U ?_
  refine wl_op U rfl rfl (op_box U rfl rfl ?_)
  refine wr U ((ra U).to (v' := (.int .i64 0)) rfl) rfl rfl ?_
  refine wz U ?_
  repeat (first|refine nt ?_|refine nq ?_)
  refine wc_gen U (fun R => R N = some (.row 24 0 [(.int .i64 ((n : Nat) : Int)), (.slice p E.length cap)] 2) ∧ Sub _ R) ⟨(by first|(rw [hsy]; done) | (rw [hsy]; rfl)), ((Sub.refl _).hset (fresh hlt (by omega)))⟩ ?_
  rintro R ⟨hx_1, hs⟩ hBNR hltR
  repeat (first|refine nt ?_|refine nq ?_|refine wq U ?_)
  refine wg U ?_
  refine wr U ((ra U).to (v' := (.int .i64 0)) rfl) rfl rfl ?_
  refine wz U ?_
  repeat (first|refine nt ?_|refine nq ?_|refine wq U ?_)
  refine wc_block U ?_
  have hv := hv.sub U hs
  refine wc_loop U (fun m T H' N' => ∃ (i : Nat), i ≤ E.length ∧ m = E.length - i ∧ Has T [(1, (.int .i64 ((u : Nat) : Int))), (2, (.int .i64 ((v : Nat) : Int))), (3, (.pointer (some ⟨N, 0, none⟩))), (7, (.int .i64 ((i : Nat) : Int)))] ∧ (∀ e ∈ E.take i, ¬ ((e.1 = u ∧ e.2.1 = v) ∨ (e.1 = v ∧ e.2.1 = u))) ∧ R = H' ∧ N + 1 = N') E.length ⟨0, Nat.zero_le _, rfl, ⟨rfl, rfl, rfl, rfl, trivial⟩, by simp, rfl, rfl⟩ ?_
  rintro m T _ _ ⟨i, hi, rfl, hT, hno, rfl, rfl⟩
  obtain ⟨J, rfl⟩ := hT.ex
  repeat (first|refine nt ?_|refine nq ?_|refine wq U ?_)
  refine wg U ?_
  refine wr U ((rm U).to (v' := (.int .i64 ((i : Nat) : Int))) rfl) rfl rfl ?_
  refine wr U ((rfa U fb_24_1 rfl).to (v' := (.pointer (some ⟨N, 1, none⟩))) rfl) rfl rfl ?_
  refine wr U (rl1 U el_22 rfl (v := (.slice p E.length cap)) (by rw [rrw U (by omega) hx_1]; rfl)) rfl rfl ?_
  refine wr U ((rd_len' U sl_22 rfl).to (v' := (.int .i64 ((E.length : Nat) : Int))) rfl) rfl rfl ?_
  refine wr U (rd_lss U rfl rfl) rfl rfl ?_
  refine wz U ?_
  repeat (first|refine nt ?_|refine nq ?_|refine wq U ?_)
  refine wcd U (t := (decide (((i : Nat) : Int) < ((E.length : Nat) : Int)))) rfl (fun hck => ?_) fun hck => ?_
  · replace hck := of_decide_eq_true hck
    refine wsk U ?_
    repeat (first|refine nt ?_|refine nq ?_)
    have hi1 : i < E.length := by omega
    obtain ⟨eb, eoff, rfl⟩ := hp (by omega)
    repeat (first|refine nt ?_|refine nq ?_|refine wq U ?_)
    refine wc_block U ?_
    repeat (first|refine nt ?_|refine nq ?_|refine wq U ?_)
    refine wg U ?_
    refine wr U ((rfa U fb_24_1 rfl).to (v' := (.pointer (some ⟨N, 1, none⟩))) rfl) rfl rfl ?_
    refine wr U (rl1 U el_22 rfl (v := (.slice (some ⟨eb, eoff, none⟩) E.length cap)) (by rw [rrw U (by omega) hx_1]; rfl)) rfl rfl ?_
    refine wr U ((rm U).to (v' := (.int .i64 ((i : Nat) : Int))) rfl) rfl rfl ?_
    refine wr U (rd_idxN U (j := i) sl_22 rfl rfl (by omega)) rfl rfl ?_
    refine wr U ((rfa U fb_43_0 rfl).to (v' := (.pointer (some ⟨eb, eoff + i * 3 + 0, none⟩))) rfl) rfl rfl ?_
    refine wr U (rl1 U el_3 rfl (v := (.int .i64 ((E[i].1 : Nat) : Int))) (hv.e0 U hi1)) rfl rfl ?_
    refine wr U ((rm U).to (v' := (.int .i64 ((u : Nat) : Int))) rfl) rfl rfl ?_
    by_cases h4_7 : ((E[i].1 : Nat) : Int) = ((u : Nat) : Int)
    · skip
      refine wr U ((rd_eql U rfl rfl).to (v' := (.bool true)) (congrArg Value.bool (decide_eq_true h4_7))) rfl rfl ?_
      refine wr U ((rm U).to (v' := (.bool true)) rfl) rfl rfl ?_
      refine wr U ((rfa U fb_24_1 rfl).to (v' := (.pointer (some ⟨N, 1, none⟩))) rfl) rfl rfl ?_
      refine wr U (rl1 U el_22 rfl (v := (.slice (some ⟨eb, eoff, none⟩) E.length cap)) (by rw [rrw U (by omega) hx_1]; rfl)) rfl rfl ?_
      refine wr U ((rm U).to (v' := (.int .i64 ((i : Nat) : Int))) rfl) rfl rfl ?_
      refine wr U (rd_idxN U (j := i) sl_22 rfl rfl (by omega)) rfl rfl ?_
      refine wr U ((rfa U fb_43_1 rfl).to (v' := (.pointer (some ⟨eb, eoff + i * 3 + 1, none⟩))) rfl) rfl rfl ?_
      refine wr U (rl1 U el_3 rfl (v := (.int .i64 ((E[i].2.1 : Nat) : Int))) (hv.e1 U hi1)) rfl rfl ?_
      refine wr U ((rm U).to (v' := (.int .i64 ((v : Nat) : Int))) rfl) rfl rfl ?_
      by_cases h4_16 : ((E[i].2.1 : Nat) : Int) = ((v : Nat) : Int)
      · skip
        refine wr U ((rd_eql U rfl rfl).to (v' := (.bool true)) (congrArg Value.bool (decide_eq_true h4_16))) rfl rfl ?_
        refine wr U ((rd_pick U rfl).to (v' := (.bool true)) rfl) rfl rfl ?_
        refine wr U ((rm U).to (v' := (.bool true)) rfl) rfl rfl ?_
        refine wl_pass U rfl rfl ?_
        refine wl_pass U rfl rfl ?_
        refine wl_pass U rfl rfl ?_
        refine wl_pass U rfl rfl ?_
        refine wl_pass U rfl rfl ?_
        refine wl_pass U rfl rfl ?_
        refine wl_pass U rfl rfl ?_
        refine wl_pass U rfl rfl ?_
        refine wl_pass U rfl rfl ?_
        refine wl_pass U rfl rfl ?_
        refine wl_pass U rfl rfl ?_
        refine wl_pass U rfl rfl ?_
        refine wl_pass U rfl rfl ?_
        refine wl_pass U rfl rfl ?_
        refine wl_pass U rfl rfl ?_
        refine wl_pass U rfl rfl ?_
        refine wl_pass U rfl rfl ?_
        refine wl_pass U rfl rfl ?_
        refine wr U ((rd_pick U rfl).to (v' := (.bool true)) rfl) rfl rfl ?_
        refine wz U ?_
        repeat (first|refine nt ?_|refine nq ?_|refine wq U ?_)
        refine wcd U (t := true) rfl (fun _ => ?_) (fun h => nomatch h)
        repeat (first|refine nt ?_|refine nq ?_|refine wq U ?_)
        refine wg U ?_
        refine wr U ((rm U).to (v' := (.int .i64 ((i : Nat) : Int))) rfl) rfl rfl ?_
        refine wr U ((ra U).to (v' := (.int .i64 ((i : Nat) : Int))) rfl) rfl rfl ?_
        refine wz U ?_
        refine wc_ret U ?_
        repeat (first|refine ret1 ?_|refine ret2 ?_)
        exact end1 U (.inl rfl) rfl (v := (.int .i64 ((i : Nat) : Int))) rfl ⟨⟨_, rfl, ⟨fun _ => ⟨E[i], List.getElem_mem hi1, by omega⟩, fun _ => by omega⟩⟩, hs, by omega⟩
      · skip
        refine wr U ((rd_eql U rfl rfl).to (v' := (.bool false)) (congrArg Value.bool (decide_eq_false h4_16))) rfl rfl ?_
        refine wr U ((rd_pick U rfl).to (v' := (.bool false)) rfl) rfl rfl ?_
        refine wr U ((rm U).to (v' := (.bool false)) rfl) rfl rfl ?_
        refine wr U ((rfa U fb_24_1 rfl).to (v' := (.pointer (some ⟨N, 1, none⟩))) rfl) rfl rfl ?_
        refine wr U (rl1 U el_22 rfl (v := (.slice (some ⟨eb, eoff, none⟩) E.length cap)) (by rw [rrw U (by omega) hx_1]; rfl)) rfl rfl ?_
        refine wr U ((rm U).to (v' := (.int .i64 ((i : Nat) : Int))) rfl) rfl rfl ?_
        refine wr U (rd_idxN U (j := i) sl_22 rfl rfl (by omega)) rfl rfl ?_
        refine wr U ((rfa U fb_43_0 rfl).to (v' := (.pointer (some ⟨eb, eoff + i * 3 + 0, none⟩))) rfl) rfl rfl ?_
        refine wr U (rl1 U el_3 rfl (v := (.int .i64 ((E[i].1 : Nat) : Int))) (hv.e0 U hi1)) rfl rfl ?_
        refine wr U ((rm U).to (v' := (.int .i64 ((v : Nat) : Int))) rfl) rfl rfl ?_
        by_cases h4_26 : ((E[i].1 : Nat) : Int) = ((v : Nat) : Int)
        · skip
          refine wr U ((rd_eql U rfl rfl).to (v' := (.bool true)) (congrArg Value.bool (decide_eq_true h4_26))) rfl rfl ?_
          refine wr U ((rm U).to (v' := (.bool true)) rfl) rfl rfl ?_
          refine wr U ((rfa U fb_24_1 rfl).to (v' := (.pointer (some ⟨N, 1, none⟩))) rfl) rfl rfl ?_
          refine wr U (rl1 U el_22 rfl (v := (.slice (some ⟨eb, eoff, none⟩) E.length cap)) (by rw [rrw U (by omega) hx_1]; rfl)) rfl rfl ?_
          refine wr U ((rm U).to (v' := (.int .i64 ((i : Nat) : Int))) rfl) rfl rfl ?_
          refine wr U (rd_idxN U (j := i) sl_22 rfl rfl (by omega)) rfl rfl ?_
          refine wr U ((rfa U fb_43_1 rfl).to (v' := (.pointer (some ⟨eb, eoff + i * 3 + 1, none⟩))) rfl) rfl rfl ?_
          refine wr U (rl1 U el_3 rfl (v := (.int .i64 ((E[i].2.1 : Nat) : Int))) (hv.e1 U hi1)) rfl rfl ?_
          refine wr U ((rm U).to (v' := (.int .i64 ((u : Nat) : Int))) rfl) rfl rfl ?_
          by_cases h4_35 : ((E[i].2.1 : Nat) : Int) = ((u : Nat) : Int)
          · skip
            refine wr U ((rd_eql U rfl rfl).to (v' := (.bool true)) (congrArg Value.bool (decide_eq_true h4_35))) rfl rfl ?_
            refine wr U ((rd_pick U rfl).to (v' := (.bool true)) rfl) rfl rfl ?_
            refine wr U ((rd_pick U rfl).to (v' := (.bool true)) rfl) rfl rfl ?_
            refine wz U ?_
            repeat (first|refine nt ?_|refine nq ?_|refine wq U ?_)
            refine wcd U (t := true) rfl (fun _ => ?_) (fun h => nomatch h)
            repeat (first|refine nt ?_|refine nq ?_|refine wq U ?_)
            refine wg U ?_
            refine wr U ((rm U).to (v' := (.int .i64 ((i : Nat) : Int))) rfl) rfl rfl ?_
            refine wr U ((ra U).to (v' := (.int .i64 ((i : Nat) : Int))) rfl) rfl rfl ?_
            refine wz U ?_
            refine wc_ret U ?_
            repeat (first|refine ret1 ?_|refine ret2 ?_)
            exact end1 U (.inl rfl) rfl (v := (.int .i64 ((i : Nat) : Int))) rfl ⟨⟨_, rfl, ⟨fun _ => ⟨E[i], List.getElem_mem hi1, by omega⟩, fun _ => by omega⟩⟩, hs, by omega⟩
          · skip
            refine wr U ((rd_eql U rfl rfl).to (v' := (.bool false)) (congrArg Value.bool (decide_eq_false h4_35))) rfl rfl ?_
            refine wr U ((rd_pick U rfl).to (v' := (.bool false)) rfl) rfl rfl ?_
            refine wr U ((rd_pick U rfl).to (v' := (.bool false)) rfl) rfl rfl ?_
            refine wz U ?_
            repeat (first|refine nt ?_|refine nq ?_|refine wq U ?_)
            refine wcd U (t := false) rfl (fun h => nomatch h) fun _ => ?_
            refine wsk U ?_
            repeat (first|refine nt ?_|refine nq ?_)
            repeat (first|refine nt ?_|refine nq ?_|refine wq U ?_)
            refine wg U ?_
            refine wr U ((rm U).to (v' := (.int .i64 ((i : Nat) : Int))) rfl) rfl rfl ?_
            refine wr U (rd_add U rfl rfl (by omega) (by omega)) rfl rfl ?_
            refine wr U ((ra U).to (v' := (.int .i64 (((i : Nat) : Int) + 1))) rfl) rfl rfl ?_
            refine wz U ?_
            repeat (first|refine nt ?_|refine nq ?_)
            refine ⟨E.length - (i + 1), by omega, i + 1, by omega, rfl, ⟨rfl, rfl, rfl, rfl, trivial⟩, ?_, rfl, rfl⟩
            intro e he; rw [List.take_succ_eq_append_getElem hi1, List.mem_append, List.mem_singleton] at he; rcases he with he | rfl; exact hno e he; omega
        · skip
          refine wr U ((rd_eql U rfl rfl).to (v' := (.bool false)) (congrArg Value.bool (decide_eq_false h4_26))) rfl rfl ?_
          refine wr U ((rm U).to (v' := (.bool false)) rfl) rfl rfl ?_
          refine wl_pass U rfl rfl ?_
          refine wl_pass U rfl rfl ?_
          refine wl_pass U rfl rfl ?_
          refine wl_pass U rfl rfl ?_
          refine wl_pass U rfl rfl ?_
          refine wl_pass U rfl rfl ?_
          refine wl_pass U rfl rfl ?_
          refine wl_pass U rfl rfl ?_
          refine wr U ((rd_pick U rfl).to (v' := (.bool false)) rfl) rfl rfl ?_
          refine wr U ((rd_pick U rfl).to (v' := (.bool false)) rfl) rfl rfl ?_
          refine wz U ?_
          repeat (first|refine nt ?_|refine nq ?_|refine wq U ?_)
          refine wcd U (t := false) rfl (fun h => nomatch h) fun _ => ?_
          refine wsk U ?_
          repeat (first|refine nt ?_|refine nq ?_)
          repeat (first|refine nt ?_|refine nq ?_|refine wq U ?_)
          refine wg U ?_
          refine wr U ((rm U).to (v' := (.int .i64 ((i : Nat) : Int))) rfl) rfl rfl ?_
          refine wr U (rd_add U rfl rfl (by omega) (by omega)) rfl rfl ?_
          refine wr U ((ra U).to (v' := (.int .i64 (((i : Nat) : Int) + 1))) rfl) rfl rfl ?_
          refine wz U ?_
          repeat (first|refine nt ?_|refine nq ?_)
          refine ⟨E.length - (i + 1), by omega, i + 1, by omega, rfl, ⟨rfl, rfl, rfl, rfl, trivial⟩, ?_, rfl, rfl⟩
          intro e he; rw [List.take_succ_eq_append_getElem hi1, List.mem_append, List.mem_singleton] at he; rcases he with he | rfl; exact hno e he; omega
    · skip
      refine wr U ((rd_eql U rfl rfl).to (v' := (.bool false)) (congrArg Value.bool (decide_eq_false h4_7))) rfl rfl ?_
      refine wr U ((rm U).to (v' := (.bool false)) rfl) rfl rfl ?_
      refine wl_pass U rfl rfl ?_
      refine wl_pass U rfl rfl ?_
      refine wl_pass U rfl rfl ?_
      refine wl_pass U rfl rfl ?_
      refine wl_pass U rfl rfl ?_
      refine wl_pass U rfl rfl ?_
      refine wl_pass U rfl rfl ?_
      refine wl_pass U rfl rfl ?_
      refine wr U ((rd_pick U rfl).to (v' := (.bool false)) rfl) rfl rfl ?_
      refine wr U ((rm U).to (v' := (.bool false)) rfl) rfl rfl ?_
      refine wr U ((rfa U fb_24_1 rfl).to (v' := (.pointer (some ⟨N, 1, none⟩))) rfl) rfl rfl ?_
      refine wr U (rl1 U el_22 rfl (v := (.slice (some ⟨eb, eoff, none⟩) E.length cap)) (by rw [rrw U (by omega) hx_1]; rfl)) rfl rfl ?_
      refine wr U ((rm U).to (v' := (.int .i64 ((i : Nat) : Int))) rfl) rfl rfl ?_
      refine wr U (rd_idxN U (j := i) sl_22 rfl rfl (by omega)) rfl rfl ?_
      refine wr U ((rfa U fb_43_0 rfl).to (v' := (.pointer (some ⟨eb, eoff + i * 3 + 0, none⟩))) rfl) rfl rfl ?_
      refine wr U (rl1 U el_3 rfl (v := (.int .i64 ((E[i].1 : Nat) : Int))) (hv.e0 U hi1)) rfl rfl ?_
      refine wr U ((rm U).to (v' := (.int .i64 ((v : Nat) : Int))) rfl) rfl rfl ?_
      by_cases h4_26 : ((E[i].1 : Nat) : Int) = ((v : Nat) : Int)
      · skip
        refine wr U ((rd_eql U rfl rfl).to (v' := (.bool true)) (congrArg Value.bool (decide_eq_true h4_26))) rfl rfl ?_
        refine wr U ((rm U).to (v' := (.bool true)) rfl) rfl rfl ?_
        refine wr U ((rfa U fb_24_1 rfl).to (v' := (.pointer (some ⟨N, 1, none⟩))) rfl) rfl rfl ?_
        refine wr U (rl1 U el_22 rfl (v := (.slice (some ⟨eb, eoff, none⟩) E.length cap)) (by rw [rrw U (by omega) hx_1]; rfl)) rfl rfl ?_
        refine wr U ((rm U).to (v' := (.int .i64 ((i : Nat) : Int))) rfl) rfl rfl ?_
        refine wr U (rd_idxN U (j := i) sl_22 rfl rfl (by omega)) rfl rfl ?_
        refine wr U ((rfa U fb_43_1 rfl).to (v' := (.pointer (some ⟨eb, eoff + i * 3 + 1, none⟩))) rfl) rfl rfl ?_
        refine wr U (rl1 U el_3 rfl (v := (.int .i64 ((E[i].2.1 : Nat) : Int))) (hv.e1 U hi1)) rfl rfl ?_
        refine wr U ((rm U).to (v' := (.int .i64 ((u : Nat) : Int))) rfl) rfl rfl ?_
        by_cases h4_35 : ((E[i].2.1 : Nat) : Int) = ((u : Nat) : Int)
        · skip
          refine wr U ((rd_eql U rfl rfl).to (v' := (.bool true)) (congrArg Value.bool (decide_eq_true h4_35))) rfl rfl ?_
          refine wr U ((rd_pick U rfl).to (v' := (.bool true)) rfl) rfl rfl ?_
          refine wr U ((rd_pick U rfl).to (v' := (.bool true)) rfl) rfl rfl ?_
          refine wz U ?_
          repeat (first|refine nt ?_|refine nq ?_|refine wq U ?_)
          refine wcd U (t := true) rfl (fun _ => ?_) (fun h => nomatch h)
          repeat (first|refine nt ?_|refine nq ?_|refine wq U ?_)
          refine wg U ?_
          refine wr U ((rm U).to (v' := (.int .i64 ((i : Nat) : Int))) rfl) rfl rfl ?_
          refine wr U ((ra U).to (v' := (.int .i64 ((i : Nat) : Int))) rfl) rfl rfl ?_
          refine wz U ?_
          refine wc_ret U ?_
          repeat (first|refine ret1 ?_|refine ret2 ?_)
          exact end1 U (.inl rfl) rfl (v := (.int .i64 ((i : Nat) : Int))) rfl ⟨⟨_, rfl, ⟨fun _ => ⟨E[i], List.getElem_mem hi1, by omega⟩, fun _ => by omega⟩⟩, hs, by omega⟩
        · skip
          refine wr U ((rd_eql U rfl rfl).to (v' := (.bool false)) (congrArg Value.bool (decide_eq_false h4_35))) rfl rfl ?_
          refine wr U ((rd_pick U rfl).to (v' := (.bool false)) rfl) rfl rfl ?_
          refine wr U ((rd_pick U rfl).to (v' := (.bool false)) rfl) rfl rfl ?_
          refine wz U ?_
          repeat (first|refine nt ?_|refine nq ?_|refine wq U ?_)
          refine wcd U (t := false) rfl (fun h => nomatch h) fun _ => ?_
          refine wsk U ?_
          repeat (first|refine nt ?_|refine nq ?_)
          repeat (first|refine nt ?_|refine nq ?_|refine wq U ?_)
          refine wg U ?_
          refine wr U ((rm U).to (v' := (.int .i64 ((i : Nat) : Int))) rfl) rfl rfl ?_
          refine wr U (rd_add U rfl rfl (by omega) (by omega)) rfl rfl ?_
          refine wr U ((ra U).to (v' := (.int .i64 (((i : Nat) : Int) + 1))) rfl) rfl rfl ?_
          refine wz U ?_
          repeat (first|refine nt ?_|refine nq ?_)
          refine ⟨E.length - (i + 1), by omega, i + 1, by omega, rfl, ⟨rfl, rfl, rfl, rfl, trivial⟩, ?_, rfl, rfl⟩
          intro e he; rw [List.take_succ_eq_append_getElem hi1, List.mem_append, List.mem_singleton] at he; rcases he with he | rfl; exact hno e he; omega
      · skip
        refine wr U ((rd_eql U rfl rfl).to (v' := (.bool false)) (congrArg Value.bool (decide_eq_false h4_26))) rfl rfl ?_
        refine wr U ((rm U).to (v' := (.bool false)) rfl) rfl rfl ?_
        refine wl_pass U rfl rfl ?_
        refine wl_pass U rfl rfl ?_
        refine wl_pass U rfl rfl ?_
        refine wl_pass U rfl rfl ?_
        refine wl_pass U rfl rfl ?_
        refine wl_pass U rfl rfl ?_
        refine wl_pass U rfl rfl ?_
        refine wl_pass U rfl rfl ?_
        refine wr U ((rd_pick U rfl).to (v' := (.bool false)) rfl) rfl rfl ?_
        refine wr U ((rd_pick U rfl).to (v' := (.bool false)) rfl) rfl rfl ?_
        refine wz U ?_
        repeat (first|refine nt ?_|refine nq ?_|refine wq U ?_)
        refine wcd U (t := false) rfl (fun h => nomatch h) fun _ => ?_
        refine wsk U ?_
        repeat (first|refine nt ?_|refine nq ?_)
        repeat (first|refine nt ?_|refine nq ?_|refine wq U ?_)
        refine wg U ?_
        refine wr U ((rm U).to (v' := (.int .i64 ((i : Nat) : Int))) rfl) rfl rfl ?_
        refine wr U (rd_add U rfl rfl (by omega) (by omega)) rfl rfl ?_
        refine wr U ((ra U).to (v' := (.int .i64 (((i : Nat) : Int) + 1))) rfl) rfl rfl ?_
        refine wz U ?_
        repeat (first|refine nt ?_|refine nq ?_)
        refine ⟨E.length - (i + 1), by omega, i + 1, by omega, rfl, ⟨rfl, rfl, rfl, rfl, trivial⟩, ?_, rfl, rfl⟩
        intro e he; rw [List.take_succ_eq_append_getElem hi1, List.mem_append, List.mem_singleton] at he; rcases he with he | rfl; exact hno e he; omega
  · replace hck := of_decide_eq_false hck
    refine wc_exit U ?_
    repeat (first|refine xt ?_|refine xps (by decide) ?_)
    refine xbl ?_
    repeat (first|refine nt ?_|refine nq ?_)
    rw [List.take_of_length_le (by omega)] at hno
    repeat (first|refine nt ?_|refine nq ?_|refine wq U ?_)
    refine wg U ?_
    refine wr U ((ra U).to (v' := (.int .i64 (-1))) rfl) rfl rfl ?_
    refine wz U ?_
    refine wc_ret U ?_
    repeat (first|refine ret1 ?_|refine ret2 ?_)
    exact end1 U (.inl rfl) rfl (v := (.int .i64 (-1))) rfl ⟨⟨_, rfl, ⟨fun h => absurd h (by decide), fun ⟨e, he, h⟩ => absurd h (hno e he)⟩⟩, hs, by omega⟩
theorem s23 (n : Nat) (E : List NE) (sv : Value) (hg : GOk n E) (H : Hp) (N : Nat) (hv : RdS U H sv 3 (necs E)) : Spec U 23 #[(.agg #[(.int .i64 ((n : Nat) : Int)), sv])] H N (fun v H' N' => Rd2 U H' v ((List.range n).map fun a => nrL E a n) ∧ Sub H H' ∧ N ≤ N') := by
  obtain ⟨p, cap, rfl, hc, hp⟩ := hv.edges U
  refine spa U pf_23 (m := 37) rfl rfl (by simp) fun hBN hlt => ?_
  obtain ⟨J, hJ⟩ := Has.ex (T := argsT #[(.agg #[(.int .i64 ((n : Nat) : Int)), (.slice p E.length cap)])]) (l := [(0, (.agg #[(.int .i64 ((n : Nat) : Int)), (.slice p E.length cap)]))]) ⟨rfl, trivial⟩
  rw [hJ]; clear hJ
  have hn := hg.hn; have hm := hg.hm
  repeat (first|refine nt ?_|refine nq ?_|refine wq U ?_)
  refine wg U ?_
  refine wl_op U rfl rfl (op_box U rfl rfl ?_)
  refine wr U ((ra U).to (v' := (.slice none 0 0)) rfl) rfl rfl ?_
  refine wz U ?_
  repeat (first|refine nt ?_|refine nq ?_)
  refine wc_gen U (fun R => R N = some (.row 24 0 [(.int .i64 ((n : Nat) : Int)), (.slice p E.length cap)] 2) ∧ Sub _ R) ⟨(by first|(rw [hsy]; done) | (rw [hsy]; rfl)), ((Sub.refl _).hset (fresh hlt (by omega)))⟩ ?_
  rintro R ⟨hx_2, hs⟩ hBNR hltR
  have hv := hv.sub U hs
  repeat (first|refine nt ?_|refine nq ?_|refine wq U ?_)
  refine wg U ?_
  refine wr U ((rfa U fb_24_0 rfl).to (v' := (.pointer (some ⟨N, 0, none⟩))) rfl) rfl rfl ?_
  refine wr U (rl1 U el_3 rfl (v := (.int .i64 ((n : Nat) : Int))) (by rw [rrw U (by omega) hx_2]; rfl)) rfl rfl ?_
  refine wl_op U rfl rfl (op_makeSlice U (m := n) (v := .slice none 0 0) sl_25 rfl rfl rfl (by omega) (by omega) ?_)
  refine wr U ((ra U).to (v' := (.slice (some ⟨(N + 1), 0, none⟩) n n)) rfl) rfl rfl ?_
  refine wz U ?_
  refine wc_gen U (fun H2 => Famo R H2 (N + 1) 26 3 1 n (N + 1 + 1) (List.replicate n (.slice none 0 0)) ((List.replicate n []).map nats)) ⟨by simpa [nats] using Fam.fresh _ (N + 1) 3 1 (N + 1 + 1) n, hsy, by simp, (Sub.refl R).hset (fresh hltR (by omega)), by omega⟩ ?_
  rintro H2 hF0 hBN2 hlt2
  repeat (first|refine nt ?_|refine nq ?_|refine wq U ?_)
  refine wg U ?_
  refine wr U ((ra U).to (v' := (.int .i64 0)) rfl) rfl rfl ?_
  refine wz U ?_
  repeat (first|refine nt ?_|refine nq ?_|refine wq U ?_)
  refine wc_block U ?_
  refine wc_loop U (fun m T H' N' => ∃ (i : Nat) (vs : List Value) (X : List (List Nat)), i ≤ n ∧ m = n - i ∧ Has T [(1, (.pointer (some ⟨N, 0, none⟩))), (3, (.slice (some ⟨(N + 1), 0, none⟩) n n)), (4, (.int .i64 ((i : Nat) : Int)))] ∧ Famo R H' (N + 1) 26 3 1 n N' vs (X.map nats) ∧ NrP n E i 0 X) n ⟨0, _, _, Nat.zero_le _, rfl, ⟨rfl, rfl, rfl, trivial⟩, hF0, NrP.nil n E⟩ ?_
  clear hF0
  rintro m T H3 N3 ⟨i, vs, X, hi, rfl, hT, hF, hX⟩
  obtain ⟨J, rfl⟩ := hT.ex
  have hlt3 := hF.lt
  repeat (first|refine nt ?_|refine nq ?_|refine wq U ?_)
  refine wg U ?_
  refine wr U ((rm U).to (v' := (.int .i64 ((i : Nat) : Int))) rfl) rfl rfl ?_
  refine wr U ((rfa U fb_24_0 rfl).to (v' := (.pointer (some ⟨N, 0, none⟩))) rfl) rfl rfl ?_
  refine wr U (rl1 U el_3 rfl (v := (.int .i64 ((n : Nat) : Int))) (by rw [rrw U (by omega) (hF.sub _ _ hx_2)]; rfl)) rfl rfl ?_
  refine wr U (rd_lss U rfl rfl) rfl rfl ?_
  refine wz U ?_
  repeat (first|refine nt ?_|refine nq ?_|refine wq U ?_)
  refine wcd U (t := (decide (((i : Nat) : Int) < ((n : Nat) : Int)))) rfl (fun hck => ?_) fun hck => ?_
  · replace hck := of_decide_eq_true hck
    refine wsk U ?_
    repeat (first|refine nt ?_|refine nq ?_)
    have hi1 : i < n := by omega
    repeat (first|refine nt ?_|refine nq ?_|refine wq U ?_)
    refine wc_block U ?_
    repeat (first|refine nt ?_|refine nq ?_|refine wq U ?_)
    refine wg U ?_
    refine wr U ((ra U).to (v' := (.int .i64 0)) rfl) rfl rfl ?_
    refine wz U ?_
    repeat (first|refine nt ?_|refine nq ?_|refine wq U ?_)
    refine wc_block U ?_
    refine wc_loop U (fun m T H' N' => ∃ (j : Nat) (vs : List Value) (X : List (List Nat)), j ≤ n ∧ m = n - j ∧ Has T [(1, (.pointer (some ⟨N, 0, none⟩))), (3, (.slice (some ⟨(N + 1), 0, none⟩) n n)), (4, (.int .i64 ((i : Nat) : Int))), (5, (.int .i64 ((j : Nat) : Int)))] ∧ Famo R H' (N + 1) 26 3 1 n N' vs (X.map nats) ∧ NrP n E i j X) n ⟨0, _, _, Nat.zero_le _, rfl, ⟨rfl, rfl, rfl, rfl, trivial⟩, hF, hX⟩ ?_
    clear hF hX X vs
    rintro m T H4 N4 ⟨j, vs, X, hj, rfl, hT, hF, hX⟩
    obtain ⟨J, rfl⟩ := hT.ex
    have hlt4 := hF.lt
    repeat (first|refine nt ?_|refine nq ?_|refine wq U ?_)
    refine wg U ?_
    refine wr U ((rm U).to (v' := (.int .i64 ((j : Nat) : Int))) rfl) rfl rfl ?_
    refine wr U ((rfa U fb_24_0 rfl).to (v' := (.pointer (some ⟨N, 0, none⟩))) rfl) rfl rfl ?_
    refine wr U (rl1 U el_3 rfl (v := (.int .i64 ((n : Nat) : Int))) (by rw [rrw U (by omega) (hF.sub _ _ hx_2)]; rfl)) rfl rfl ?_
    refine wr U (rd_lss U rfl rfl) rfl rfl ?_
    refine wz U ?_
    repeat (first|refine nt ?_|refine nq ?_|refine wq U ?_)
    refine wcd U (t := (decide (((j : Nat) : Int) < ((n : Nat) : Int)))) rfl (fun hcj => ?_) fun hcj => ?_
    · replace hcj := of_decide_eq_true hcj
      refine wsk U ?_
      repeat (first|refine nt ?_|refine nq ?_)
      have hj1 : j < n := by omega
      repeat (first|refine nt ?_|refine nq ?_|refine wq U ?_)
      refine wc_block U ?_
      repeat (first|refine nt ?_|refine nq ?_|refine wq U ?_)
      refine wg U ?_
      refine wr U (rd_load2 U el_24 rfl (v0 := (.int .i64 ((n : Nat) : Int))) (v1 := (.slice p E.length cap))  (by rw [rrw U (by omega) (hF.sub _ _ hx_2)]; rfl) (by rw [rrw U (by omega) (hF.sub _ _ hx_2)]; rfl)) rfl rfl ?_
      refine wr U ((rm U).to (v' := (.int .i64 ((i : Nat) : Int))) rfl) rfl rfl ?_
      refine wr U ((rm U).to (v' := (.int .i64 ((j : Nat) : Int))) rfl) rfl rfl ?_
      refine wl_op U rfl rfl (op_call U Tryz.f46 rfl rfl pf_46 (by kernel_rfl) (by kernel_rfl) ((s46 U n E _ i j hg _ _ (hv.sub U hF.sub)).mono U ?_))
      rintro _ H5 N5 ⟨⟨r, rfl, hr⟩, hs5, hN5⟩
      refine wr U (rd_geq U rfl rfl) rfl rfl ?_
      refine wz U ?_
      have hF5 := hF.mono hs5 hN5
      have hlt5 := hF5.lt
      refine wc_own U fun hBN5 hlt5b => ?_
      repeat (first|refine nt ?_|refine nq ?_|refine wq U ?_)
      refine wcd U (t := (decide (0 ≤ r))) rfl (fun hr0 => ?_) fun hr0 => ?_
      · replace hr0 := of_decide_eq_true hr0
        have had := hr.1 hr0
        have hX0 := hX.small hn (Nat.le_of_lt hj1)
        obtain ⟨vA, csA, hvA, hcA⟩ := hF5.get hi1
        have hbA := nats_bound hX0 hcA
        repeat (first|refine nt ?_|refine nq ?_|refine wq U ?_)
        refine wc_mid U (fun T' H' N' => Has T' [(1, (.pointer (some ⟨N, 0, none⟩))), (3, (.slice (some ⟨(N + 1), 0, none⟩) n n)), (4, (.int .i64 ((i : Nat) : Int))), (5, (.int .i64 ((j : Nat) : Int)))] ∧ N5 ≤ N' ∧ (∃ v2, Famo R H' (N + 1) 26 3 1 n N' (vs.set i v2) ((X.map nats).set i (csA ++ [(.int .i64 ((j : Nat) : Int))])))) ?_ ?_
        · have hblt := hF5.lt
          refine wg U ?_
          refine wr U ((rm U).to (v' := (.slice (some ⟨(N + 1), 0, none⟩) n n)) rfl) rfl rfl ?_
          refine wr U ((rm U).to (v' := (.int .i64 ((i : Nat) : Int))) rfl) rfl rfl ?_
          refine wr U ((rm U).to (v' := (.slice (some ⟨(N + 1), 0, none⟩) n n)) rfl) rfl rfl ?_
          refine wr U ((rm U).to (v' := (.int .i64 ((i : Nat) : Int))) rfl) rfl rfl ?_
          refine wr U (rd_idx1 U (j := i) sl_25 rfl rfl (by omega)) rfl rfl ?_
          refine wr U (rl1 U el_26 rfl (v := vA) (rd_at U (by omega) (hF5.row) hvA)) rfl rfl ?_
          refine wr U ((rm U).to (v' := (.int .i64 ((j : Nat) : Int))) rfl) rfl rfl ?_
          refine wl_op U rfl rfl (op_bs U sl_26 rfl (by decide) (by decide) [(.int .i64 ((j : Nat) : Int))] rfl (by simp [Value.cells]) rfl (cs := [(.int .i64 ((j : Nat) : Int))]) rfl ?_)
          refine wl_op U rfl rfl (op_append1 U (H0 := _) (cs := csA) (ys := [(.int .i64 ((j : Nat) : Int))]) sl_26 rfl (by decide) rfl (hF5.fam.sl _ _ _ hvA hcA) (hF5.fam.low hvA (.inr (by omega))) rfl rfl rfl (by omega) (one1 rfl) (by omega) (by omega) ?_)
          intro wA HA NA hNA hslA hfrA hloA
          have hbr : HA (N + 1) = some (.row 26 0 vs n) := ((hfrA (N + 1) (by omega) (hF5.fam.low hvA (by omega))).trans ((hsn (b := (N + 1)) (c := N5) (by omega)).trans (hF5.row)))
          refine wr U (rd_idx1 U (j := i) sl_25 rfl rfl hi1) rfl rfl ?_
          have hon := oneS hslA
          refine wl_op0 U rfl (op_store1 U el_26 rfl rfl hon.1 hon.2 hbr (by omega) (by rw [hF5.len]; simpa using hi1) ?_)
          refine wz U ?_
          rw [show 0 + i - 0 = i by omega]
          refine ⟨rfl, ⟨rfl, rfl, rfl, rfl, trivial⟩, by omega, ⟨wA, hF5.step U hltR hvA (by omega) hNA (by intro c hc; rw [hsn (b := c) (c := N5) (by omega)]) hfrA hslA hloA⟩⟩
        rintro TA HA NA ⟨hTA, hNA, ⟨v2A, hF1⟩⟩
        obtain ⟨J, rfl⟩ := hTA.ex
        rw [addN_nats hcA] at hF1
        repeat (first|refine nt ?_|refine nq ?_)
        repeat (first|refine nt ?_|refine nq ?_|refine wq U ?_)
        refine wg U ?_
        refine wr U ((rm U).to (v' := (.int .i64 ((j : Nat) : Int))) rfl) rfl rfl ?_
        refine wr U (rd_add U rfl rfl (by omega) (by omega)) rfl rfl ?_
        refine wr U ((ra U).to (v' := (.int .i64 (((j : Nat) : Int) + 1))) rfl) rfl rfl ?_
        refine wz U ?_
        repeat (first|refine nt ?_|refine nq ?_)
        exact ⟨n - (j + 1), by omega, j + 1, _, _, by omega, rfl, ⟨rfl, rfl, rfl, rfl, trivial⟩, hF1, hX.yes hi1 had⟩
      · replace hr0 := of_decide_eq_false hr0
        refine wsk U ?_
        repeat (first|refine nt ?_|refine nq ?_)
        repeat (first|refine nt ?_|refine nq ?_|refine wq U ?_)
        refine wg U ?_
        refine wr U ((rm U).to (v' := (.int .i64 ((j : Nat) : Int))) rfl) rfl rfl ?_
        refine wr U (rd_add U rfl rfl (by omega) (by omega)) rfl rfl ?_
        refine wr U ((ra U).to (v' := (.int .i64 (((j : Nat) : Int) + 1))) rfl) rfl rfl ?_
        refine wz U ?_
        repeat (first|refine nt ?_|refine nq ?_)
        exact ⟨n - (j + 1), by omega, j + 1, _, _, by omega, rfl, ⟨rfl, rfl, rfl, rfl, trivial⟩, hF5, hX.no fun h => hr0 (hr.2 h)⟩
    · replace hcj := of_decide_eq_false hcj
      refine wc_exit U ?_
      repeat (first|refine xt ?_|refine xps (by decide) ?_)
      refine xbl ?_
      repeat (first|refine nt ?_|refine nq ?_)
      obtain rfl : j = n := by omega
      repeat (first|refine nt ?_|refine nq ?_|refine wq U ?_)
      refine wg U ?_
      refine wr U ((rm U).to (v' := (.int .i64 ((i : Nat) : Int))) rfl) rfl rfl ?_
      refine wr U (rd_add U rfl rfl (by omega) (by omega)) rfl rfl ?_
      refine wr U ((ra U).to (v' := (.int .i64 (((i : Nat) : Int) + 1))) rfl) rfl rfl ?_
      refine wz U ?_
      repeat (first|refine nt ?_|refine nq ?_)
      exact ⟨j - (i + 1), by omega, i + 1, _, _, by omega, rfl, ⟨rfl, rfl, rfl, trivial⟩, hF, hX.next⟩
  · replace hck := of_decide_eq_false hck
    refine wc_exit U ?_
    repeat (first|refine xt ?_|refine xps (by decide) ?_)
    refine xbl ?_
    repeat (first|refine nt ?_|refine nq ?_)
    have hin : i = n := by omega
    rw [hin] at hX
    repeat (first|refine nt ?_|refine nq ?_|refine wq U ?_)
    refine wg U ?_
    refine wr U ((rm U).to (v' := (.slice (some ⟨(N + 1), 0, none⟩) n n)) rfl) rfl rfl ?_
    refine wr U ((ra U).to (v' := (.slice (some ⟨(N + 1), 0, none⟩) n n)) rfl) rfl rfl ?_
    refine wz U ?_
    refine wc_own U fun hBN4 hlt4b => ?_
    have hall := hX.all
    refine wc_ret U ?_
    repeat (first|refine ret1 ?_|refine ret2 ?_)
    exact end1 U (.inl rfl) rfl (v := (.slice (some ⟨(N + 1), 0, none⟩) n n)) rfl ⟨hall ▸ hF.fam.rd2 U (fun b o e => (hlt4b b o e).1) hF.row hF.len, hs.trans hF.sub, by omega⟩
end Go.Proofs.YtdmodppoellbkaaGreat
