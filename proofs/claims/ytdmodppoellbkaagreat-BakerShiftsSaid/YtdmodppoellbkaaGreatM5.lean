/-
Max, Shift, Check, Enough, Right.
-/
import Derived.Test.YtdmodppoellbkaaGreatM4
set_option linter.unusedVariables false
set_option linter.unusedSimpArgs false
namespace Go.Proofs.YtdmodppoellbkaaGreat
open Go Go.RowKit
variable (U : Cx)
theorem look_km (ks : List Nat) (u : Nat) : (look (km ks) ((u : Nat) : Int)).getD (.bool false) = .bool (decide (u ∈ ks)) := by
  induction ks with
  | nil => simp [km, look]
  | cons k ks ih =>
    by_cases h : u = k
    · subst h; simp [km, look]
    · have h' : ¬ ((u : Nat) : Int) = ((k : Nat) : Int) := by omega
      simp only [km, List.map_cons, look, if_neg h'] at ih ⊢
      rw [ih]; simp [h]
theorem mresCell1 {fn : Func} {T : Tm} {H : Hp} {N t ty b : Nat} {v : Value} (hf : fn.results = #[.cell t ty]) (ht : eltB ty 1 false = true) (hv : T t = .pointer (some ⟨b, 0, none⟩)) (h0 : rd U H b 0 = some v) : ∀ (a : Act) (w : World), (∀ i, a.tmps.getD i undef = T i) → Own U H N w → (results fn a.tmps).run P w = .ok v w := fun a w h ho => by
  obtain ⟨d, inf, hu, hi, ha, hs⟩ := eltB_out ht
  have h2 := h t
  rw [hv] at h2
  simp only [Array.getD_eq_getD_getElem?] at h2
  have h3 := ho.hold.rd U h0
  simp [results, hf, h2, asAddr, loadVar, run_isAgg hu, ha, h3]
theorem IsSl.frame {H H' : Hp} {v : Value} {e sz : Nat} {cs : List Value} (h : IsSl H v e sz cs) (hf : ∀ c o, blkOf v = some c → H c = some o → H' c = some o) : IsSl H' v e sz cs := by
  rcases h with h | ⟨b, off, k, cap, tot, rfl, h2, h3, h4, h5⟩
  · exact .inl h
  · exact .inr ⟨b, off, k, cap, tot, rfl, hf _ _ rfl h2, h3, h4, h5⟩
/-- What the vertices from behind have decided: 'ks' are in, those of the first 'r' steps are to come. -/
structure Back (S : List St) (inns : List (List Bool)) (r : Nat) (ks : List Nat) : Prop where
  nd : ks.Nodup
  mem : ∀ v ∈ ks, v ∈ (S.drop r).map (·.1)
  dec : Dec (fun v => decide (v ∈ ks)) (S.drop r) (inns.drop r)
theorem Back.start (S : List St) (inns : List (List Bool)) (h : inns.length = S.length) : Back S inns S.length [] := by
  refine ⟨by simp, by simp, ?_⟩
  rw [List.drop_length, ← h, List.drop_length]; trivial
theorem Sok.drop {ad : Nat → Nat → Prop} : ∀ {S : List St}, Sok ad S → ∀ r, Sok ad (S.drop r)
  | [], h, r => by simp [Sok]
  | x :: S, h, 0 => h
  | x :: S, h, r + 1 => Sok.drop h.2.2.2.2.2 r
theorem Dec.congr {I I' : Nat → Bool} : ∀ {S : List St} {inns : List (List Bool)}, Dec I S inns → (∀ v ∈ S.map (·.1), I v = I' v) → (∀ x ∈ S, ∀ v ∈ x.2, I v = I' v) → Dec I' S inns
  | [], _, _, _, _ => by cases ‹List (List Bool)› <;> trivial
  | x :: S, [], _, _, _ => trivial
  | x :: S, inn :: inns, h, h1, h2 => by
    refine ⟨?_, h.2.congr (fun v hv => h1 v (by simp only [List.map_cons, List.mem_cons]; exact .inr hv)) (fun y hy => h2 y (List.mem_cons_of_mem _ hy))⟩
    rw [← h1 x.1 (by simp), ← encB_congr (h2 x (List.mem_cons_self ..))]; exact h.1
theorem Sok.near_mem {ad : Nat → Nat → Prop} : ∀ {S : List St}, Sok ad S → ∀ x ∈ S, ∀ v ∈ x.2, v ∈ S.map (·.1)
  | s :: S, h, x, hx, v, hv => by
    obtain ⟨_, _, h3, _, _, h6⟩ := h
    rw [List.map_cons, List.mem_cons]
    rcases List.mem_cons.1 hx with rfl | hx
    · exact .inr (h3 v hv)
    · exact .inr (h6.near_mem x hx v hv)
theorem Back.step {ad : Nat → Nat → Prop} {S : List St} {inns : List (List Bool)} {r : Nat} {ks : List Nat} (h : Back S inns (r + 1) ks) (hs : Sok ad S) (hr : r < S.length) (hi : r < inns.length) :
    Back S inns r (if inns[r].getD (encB S[r].2 (fun v => decide (v ∈ ks))) false = true then ks ++ [S[r].1] else ks) := by
  have hd := hs.drop r
  rw [List.drop_eq_getElem_cons hr] at hd
  obtain ⟨h1, h2, h3, h4, h5, h6⟩ := hd
  have hxk : S[r].1 ∉ ks := fun hm => h2 (h.mem _ hm)
  have hxn : S[r].1 ∉ S[r].2 := fun hm => h2 (h3 _ hm)
  have hsame : ∀ v, v ≠ S[r].1 → decide (v ∈ ks) = decide (v ∈ ks ++ [S[r].1]) := fun v hv => by simp [hv]
  have he : encB S[r].2 (fun v => decide (v ∈ ks)) = encB S[r].2 (fun v => decide (v ∈ ks ++ [S[r].1])) := encB_congr fun v hv => hsame v (by rintro rfl; exact hxn hv)
  split
  · rename_i hin
    refine ⟨?_, fun v hv => ?_, ?_⟩
    · rw [List.nodup_append]; exact ⟨h.nd, by simp, fun a ha b hb hab => by simp at hb; subst hb; subst hab; exact hxk ha⟩
    · rw [List.drop_eq_getElem_cons hr, List.map_cons, List.mem_cons]
      rcases List.mem_append.1 hv with hv | hv
      · exact .inr (h.mem v hv)
      · simp at hv; exact .inl hv
    · rw [List.drop_eq_getElem_cons hr, List.drop_eq_getElem_cons hi]
      refine ⟨?_, h.dec.congr (fun v hv => hsame v (by rintro rfl; exact h2 hv)) (fun x hx v hv => hsame v (by rintro rfl; exact h2 (h6.near_mem x hx _ hv)))⟩
      show decide (S[r].1 ∈ ks ++ [S[r].1]) = inns[r].getD (encB S[r].2 fun v => decide (v ∈ ks ++ [S[r].1])) false
      rw [← he, hin]; simp
  · rename_i hin
    refine ⟨h.nd, fun v hv => ?_, ?_⟩
    · rw [List.drop_eq_getElem_cons hr, List.map_cons, List.mem_cons]; exact .inr (h.mem v hv)
    · rw [List.drop_eq_getElem_cons hr, List.drop_eq_getElem_cons hi]
      refine ⟨?_, h.dec⟩
      show decide (S[r].1 ∈ ks) = inns[r].getD (encB S[r].2 fun v => decide (v ∈ ks)) false
      simp only [Bool.not_eq_true] at hin
      rw [hin]; simp [hxk]
theorem Best.of_mem {ad : Nat → Nat → Prop} {p : Nat → Prop} {os os' : List Nat} (h : Best ad p os) (hn : os'.Nodup) (hm : ∀ v, v ∈ os' ↔ v ∈ os) : Best ad p os' :=
  ⟨hn, fun v hv => h.mem v ((hm v).1 hv), fun u hu v hv => h.ind u ((hm u).1 hu) v ((hm v).1 hv), fun J h1 h2 h3 => Nat.le_trans (h.max J h1 h2 h3) (nodup_le os os' h.nd fun x hx => (hm x).2 hx)⟩
theorem Run.ilen {ad : Nat → Nat → Prop} {S : List St} {ts ts' : List Tab} {inns : List (List Bool)} (h : Run ad S ts inns ts') : ∀ (i : Nat) (hi : i < S.length) (hj : i < inns.length), inns[i].length = 2 ^ S[i].2.length := by
  induction h with
  | nil => intro i hi; simp at hi
  | cons h1 _ ih =>
    intro i hi hj
    cases i with
    | zero => exact h1.ilen
    | succ i => exact ih i (by simpa using hi) (by simpa using hj)
theorem Back.told {ad : Nat → Nat → Prop} {n : Nat} {st : List St} {p : Nat → Bool} (h : Steps ad n st) (hp : ∀ u v, ad u v → p u = p v) (hsym : ∀ u v, ad u v → ad v u) (hirr : ∀ u, ¬ ad u u)
    {inns : List (List Bool)} {ts' : List Tab} (hr : Run ad (st.filter fun s => p s.1) [] inns ts') {ks : List Nat} (hb : Back (st.filter fun s => p s.1) inns 0 ks) : Best ad (fun v => v < n ∧ p v = true) ks := by
  have := Run.told h hp hsym hirr hr (fun v => decide (v ∈ ks)) (by simpa using hb.dec)
  refine this.of_mem hb.nd fun v => ?_
  rw [List.mem_filter]
  have hm := hb.mem v
  simp only [List.drop_zero] at hm
  exact ⟨fun hv => ⟨hm hv, by simpa using hv⟩, fun hv => by simpa using hv.2⟩
theorem s64 (sv : Value) (h1 : sv.cells.toList = [sv]) (H : Hp) (N : Nat) : Spec U 64 #[sv] H N (fun v H' N' => v = .func (.func 100) #[] #[(.pointer (some ⟨N, 0, none⟩))] ∧ H' = hset H N (.row 102 0 [sv] 1) ∧ N' = N + 1) := by
  refine spa U pf_64 (m := 4) rfl rfl (by simp) fun hBN hlt => ?_
  obtain ⟨J, hJ⟩ := Has.ex (T := argsT #[sv]) (l := [(0, sv)]) ⟨rfl, trivial⟩
  rw [hJ]; clear hJ
  repeat (first|refine nt ?_|refine nq ?_|refine wq U ?_)
  refine wg U ?_
  refine wl_op U rfl rfl (op_box U rfl h1 ?_)
  refine wr U ((ra U).to (v' := .nilFunc) rfl) rfl rfl ?_
  refine wz U ?_
  repeat (first|refine nt ?_|refine nq ?_|refine wq U ?_)
  refine wg U ?_
  refine wr U ((rd_makeFunc U).to (v' := (.func (.func 100) #[] #[(.pointer (some ⟨N, 0, none⟩))])) rfl) rfl rfl ?_
  refine wr U ((ra U).to (v' := (.func (.func 100) #[] #[(.pointer (some ⟨N, 0, none⟩))])) rfl) rfl rfl ?_
  refine wz U ?_
  refine wc_ret U ?_
  repeat (first|refine ret1 ?_|refine ret2 ?_)
  exact end1 U (.inl rfl) rfl (v := (.func (.func 100) #[] #[(.pointer (some ⟨N, 0, none⟩))])) rfl ⟨rfl, rfl, rfl⟩
theorem s100 (l b : Nat) (sv : Value) (st : List St) (us : List Value) (hul : us.length = st.length) (hl : st.length ≤ 100000) (J : Nat → Hp → Nat → Prop) (hJ : ∀ r H N, J r H N → H b = some (.row 102 0 [sv] 1) ∧ RdS U H sv 2 (stc st us)) (hY : ∀ (r : Nat) (hr : r < st.length) (u : Value), us[r]? = some u → ∀ (H : Hp) (N : Nat), J (r + 1) H N → YieldOk U l #[.int .i64 ((r : Nat) : Int), .agg #[.int .i64 ((st[r].1 : Nat) : Int), u]] H N (fun v H' N' => v = .bool true ∧ J r H' N')) (H : Hp) (N : Nat) (h0 : J st.length H N) : Spec U 100 #[(.func (.yield l) #[] #[]), (.pointer (some ⟨b, 0, none⟩))] H N (fun v H' N' => J 0 H' N') := by
  obtain ⟨hb0, hv0⟩ := hJ _ H N h0
  obtain ⟨p, k, cap, rfl, hc, hk, hp⟩ := hv0.out U
  obtain rfl : k = st.length := by rw [stc_length hul] at hk; omega
  refine spec_iter U pf_100 (m := 19) rfl rfl (by simp) fun hBN hlt => ?_
  obtain ⟨JJ, hJJ⟩ := Has.ex (T := argsT #[(.func (.yield l) #[] #[]), (.pointer (some ⟨b, 0, none⟩))]) (l := [(0, (.func (.yield l) #[] #[])), (1, (.pointer (some ⟨b, 0, none⟩)))]) ⟨rfl, rfl, trivial⟩
  rw [hJJ]; clear hJJ
  have hbB := (hlt _ _ hb0).1
  repeat (first|refine ntD ?_|refine nqD ?_|refine wi_seq U ?_)
  refine wi_region U ?_
  refine wli_rd U (rl1 U el_102 rfl (v := (.slice p st.length cap)) (by rw [rrw U (by omega) hb0]; rfl)) rfl rfl ?_
  refine wli_rd U ((rd_len' U sl_102 rfl).to (v' := (.int .i64 ((st.length : Nat) : Int))) rfl) rfl rfl ?_
  refine wli_rd U (rd_sub' U rfl rfl (by omega) (by omega)) rfl rfl ?_
  refine wli_rd U ((ra U).to (v' := (.int .i64 (((st.length : Nat) : Int) - 1))) rfl) rfl rfl ?_
  refine wli_nil U ?_
  repeat (first|refine ntD ?_|refine nqD ?_|refine wi_seq U ?_)
  refine wi_block U ?_
  refine wi_loop U (fun m T H' N' => ∃ (r : Nat), r ≤ st.length ∧ m = r ∧ Has T [(0, (.func (.yield l) #[] #[])), (1, (.pointer (some ⟨b, 0, none⟩))), (3, (.int .i64 (((r : Nat) : Int) - 1)))] ∧ J r H' N') st.length ⟨st.length, Nat.le_refl _, rfl, ⟨rfl, rfl, rfl, trivial⟩, h0⟩ ?_
  rintro m T H2 N2 ⟨r, hr, rfl, hT, hJ2⟩
  obtain ⟨J2, rfl⟩ := hT.ex
  obtain ⟨hb2, hv2⟩ := hJ _ H2 N2 hJ2
  repeat (first|refine ntD ?_|refine nqD ?_|refine wi_seq U ?_)
  refine wi_region U ?_
  refine wli_rd U ((rm U).to (v' := (.int .i64 (((m : Nat) : Int) - 1))) rfl) rfl rfl ?_
  refine wli_rd U (rd_geq U rfl rfl) rfl rfl ?_
  refine wli_nil U ?_
  repeat (first|refine ntD ?_|refine nqD ?_|refine wi_seq U ?_)
  refine wi_cond U (t := (decide (0 ≤ ((m : Nat) : Int) - 1))) rfl (fun hck => ?_) fun hck => ?_
  · replace hck := of_decide_eq_true hck
    refine wi_skip U ?_
    repeat (first|refine ntD ?_|refine nqD ?_)
    obtain ⟨q, rfl⟩ : ∃ q, m = q + 1 := ⟨m - 1, by omega⟩
    have hq : q < st.length := by omega
    obtain ⟨u, hu⟩ := get_ex (l := us) (i := q) (by omega)
    obtain ⟨hg1, hg2⟩ := stc_get hul hq hu
    obtain ⟨b2, off, rfl⟩ := hp (by omega)
    repeat (first|refine ntD ?_|refine nqD ?_|refine wi_seq U ?_)
    refine wi_block U ?_
    repeat (first|refine ntD ?_|refine nqD ?_|refine wi_seq U ?_)
    refine wi_region U ?_
    refine wli_rd U ((rm U).to (v' := (.func (.yield l) #[] #[])) rfl) rfl rfl ?_
    refine wli_rd U ((rm U).to (v' := (.int .i64 ((q : Nat) : Int))) (congrArg (Value.int .i64) (by omega))) rfl rfl ?_
    refine wli_rd U (rl1 U el_102 rfl (v := (.slice (some ⟨b2, off, none⟩) st.length cap)) (by rw [rrw U (by omega) hb2]; rfl)) rfl rfl ?_
    refine wli_rd U ((rm U).to (v' := (.int .i64 ((q : Nat) : Int))) (congrArg (Value.int .i64) (by omega))) rfl rfl ?_
    refine wli_rd U (rd_idxN U (j := q) sl_102 rfl rfl hq) rfl rfl ?_
    refine wli_rd U (rd_load2 U el_106 rfl (v0 := (.int .i64 ((st[q].1 : Nat) : Int))) (v1 := u)  (hv2.get U hg1) (hv2.get U hg2)) rfl rfl ?_
    refine wli_opi U rfl rfl (op_yield U rfl rfl (fun w ho => ?_))
    obtain ⟨fn, tmps, assign, body, hy, hR⟩ := hY q hq u hu H2 N2 hJ2 w ho
    refine ⟨fn, tmps, assign, body, hy, hR.mono ?_⟩
    rintro e w' ⟨v, H3, N3, rfl, ho3, rfl, hJ3⟩
    refine ⟨_, H3, N3, rfl, ho3, ?_⟩
    refine wli_rd U ((rd_not U rfl).to (v' := (.bool false)) rfl) rfl rfl ?_
    refine wli_nil U ?_
    repeat (first|refine ntD ?_|refine nqD ?_|refine wi_seq U ?_)
    refine wi_cond U (t := false) rfl (fun h => nomatch h) fun _ => ?_
    refine wi_skip U ?_
    repeat (first|refine ntD ?_|refine nqD ?_)
    repeat (first|refine ntD ?_|refine nqD ?_|refine wi_seq U ?_)
    refine wi_region U ?_
    refine wli_rd U ((rm U).to (v' := (.int .i64 (((q + 1 : Nat) : Int) - 1))) rfl) rfl rfl ?_
    refine wli_rd U ((rd_sub' U rfl rfl (by omega) (by omega)).to (v' := (.int .i64 (((q : Nat) : Int) - 1))) (congrArg (Value.int .i64) (by omega))) rfl rfl ?_
    refine wli_rd U ((ra U).to (v' := (.int .i64 (((q : Nat) : Int) - 1))) rfl) rfl rfl ?_
    refine wli_nil U ?_
    repeat (first|refine ntD ?_|refine nqD ?_)
    exact ⟨rfl, q, by omega, q, by omega, rfl, ⟨rfl, rfl, rfl, trivial⟩, hJ3⟩
  · replace hck := of_decide_eq_false hck
    refine wi_exit U ?_
    repeat (first|refine exit_thenD ?_|refine exit_pastD (by decide) ?_)
    refine exit_blockD ?_
    repeat (first|refine ntD ?_|refine nqD ?_)
    obtain rfl : m = 0 := by omega
    exact iend0 U (.inl rfl) rfl hJ2
end Go.Proofs.YtdmodppoellbkaaGreat
namespace Go.Proofs.YtdmodppoellbkaaGreat
open Go Go.RowKit
variable (U : Cx)
/-- The solver, and the list of the steps that it has seen. -/
structure Slv (E : List NE) (sb cb : Nat) (nv : Value) (Hb R H : Hp) (S L : List St) (tv dv lv : Value) (tus : List (Value × Value)) (ts : List Tab) (ibs : List Nat) (inns : List (List Bool)) (lus : List Value) : Prop where
  base : Sub Hb R
  sub : Sub R H
  rsb : R sb = none
  rdv : ∀ c, blkOf dv = some c → R c = none
  dsb : blkOf dv ≠ some sb
  row : H sb = some (.row 101 0 [nv, tv, dv] 3)
  tsl : RdS U R tv 2 (ttc tus)
  tbs : TbV U R tus ts
  dsl : IsSl H dv 63 1 (ibs.map clo)
  dl : ibs.length = inns.length
  dec : ∀ (i ib : Nat) (inn : List Bool), ibs[i]? = some ib → inns[i]? = some inn → ∃ iv, hdel R cb ib = some (.row 67 0 [iv] 1) ∧ RdS U (hdel R cb) iv 1 (bools inn)
  run : Run (adj E) S [] inns ts
  bd : ∀ s, sumT ts s ≤ S.length
  tn : ts.length ≤ S.length
  lsl : IsSl H lv 106 2 (stc L lus)
  ll : lus.length = L.length
  lrd : RdV U (hdel R cb) lus (L.map (·.2))
  llo : ∀ c, blkOf lv = some c → R c = none ∧ c ≠ sb ∧ blkOf dv ≠ some c
  rcb : R cb = some (.row 26 0 [.slice none 0 0] 1)
section
variable {E : List NE} {sb cb : Nat} {nv : Value} {Hb R H : Hp} {S L : List St} {tv dv lv : Value} {tus : List (Value × Value)} {ts : List Tab} {ibs : List Nat} {inns : List (List Bool)} {lus : List Value}
theorem Slv.grow {H' : Hp} (h : Slv U E sb cb nv Hb R H S L tv dv lv tus ts ibs inns lus) (hs : Sub H H') : Slv U E sb cb nv Hb R H' S L tv dv lv tus ts ibs inns lus :=
  { h with sub := h.sub.trans hs, row := hs _ _ h.row, dsl := h.dsl.sub hs, lsl := h.lsl.sub hs }
theorem Slv.append {HA : Hp} {N cA : Nat} {wA u : Value} {x : St} (h : Slv U E sb cb nv Hb R H S L tv dv lv tus ts ibs inns lus) (hlt : ∀ b o, H b = some o → U.B ≤ b ∧ b < N) (hk : ∀ c, c < N → blkOf lv ≠ some c → HA c = H c)
    (hs : IsSl HA wA 106 2 (stc L lus ++ [.int .i64 ((x.1 : Nat) : Int), u])) (hcA : blkOf wA = some cA) (hcl : blkOf lv = some cA ∨ N ≤ cA) (hu : RdS U (hdel R cb) u 1 (nats x.2)) : Slv U E sb cb nv Hb R HA S (L ++ [x]) tv dv wA tus ts ibs inns (lus ++ [u]) := by
  have hsb := (hlt _ _ h.row).2
  have hsame : ∀ c o, R c = some o → HA c = some o := fun c o hc => by
    rw [hk c (hlt c o (h.sub c o hc)).2 (fun e => by rw [(h.llo c e).1] at hc; cases hc)]; exact h.sub c o hc
  exact { h with
    sub := hsame
    row := by rw [hk sb hsb (fun e => (h.llo sb e).2.1 rfl)]; exact h.row
    dsl := h.dsl.at fun c hc => hk c (h.dsl.lt hlt hc).2 (fun e => (h.llo c e).2.2 hc)
    lsl := by rw [stc_push _ _ h.ll]; exact hs
    ll := by simp [h.ll]
    lrd := by rw [List.map_append]; exact h.lrd.push U hu
    llo := fun c hc => by
      rw [hcA] at hc; cases hc
      rcases hcl with e | e
      · exact h.llo _ e
      · refine ⟨?_, by omega, fun hd => by have := (h.dsl.lt hlt hd).2; omega⟩
        cases hR : R cA with
        | none => rfl
        | some o => have := (hlt _ _ (h.sub _ _ hR)).2; omega }
theorem Slv.elim {H' R' : Hp} {N ib : Nat} {tv' dv' iv : Value} {tus' : List (Value × Value)} {t : Tab} {inn : List Bool} {x : St} (h : Slv U E sb cb nv Hb R H S L tv dv lv tus ts ibs inns lus) (hlt : ∀ b o, H b = some o → U.B ≤ b ∧ b < N)
    (hel : Elim (adj E) x ts t inn) (hRR : Sub R R') (hRH : Sub R' H') (hRl : ∀ c, c < N → R' c = R c) (hfr : ∀ c o, H c = some o → c ≠ sb → blkOf dv ≠ some c → H' c = some o) (hsb : R' sb = none) (hdn : ∀ c, blkOf dv' = some c → R' c = none)
    (hdo : ∀ c, blkOf dv' = some c → blkOf dv = some c ∨ N ≤ c) (hds : blkOf dv' ≠ some sb) (hrow : H' sb = some (.row 101 0 [nv, tv', dv'] 3)) (htv : RdS U R' tv' 2 (ttc tus')) (htb : TbV U R' tus' (restT x.1 ts ++ [t]))
    (hdc : IsSl H' dv' 63 1 (ibs.map clo ++ [clo ib])) (hN : N ≤ ib) (hib : R' ib = some (.row 67 0 [iv] 1)) (hiv : RdS U (hiH N R') iv 1 (bools inn)) : Slv U E sb cb nv Hb R' H' (S ++ [x]) L tv' dv' lv tus' (restT x.1 ts ++ [t]) (ibs ++ [ib]) (inns ++ [inn]) lus := by
  have hcb := (hlt _ _ (h.sub _ _ h.rcb)).2
  have hdd : Sub (hdel R cb) (hdel R' cb) := fun c o hc => by unfold hdel at hc ⊢; split at hc; cases hc; rename_i hne; rw [if_neg hne]; exact hRR c o hc
  have hhd : Sub (hiH N R') (hdel R' cb) := fun c o hc => by unfold hiH at hc; split at hc; cases hc; rw [hdel_ne (by omega)]; exact hc
  refine ⟨h.base.trans hRR, hRH, hsb, hdn, hds, hrow, htv, htb, by simpa using hdc, by simp [h.dl], ?_, h.run.snoc hel, fun s => ?_, ?_, h.lsl.frame fun c o hc ho => hfr c o ho (h.llo c hc).2.1 (h.llo c hc).2.2, h.ll, h.lrd.sub U hdd, fun c hc => ?_, hRR _ _ h.rcb⟩
  · intro i b n hi hn
    rcases Nat.lt_or_ge i ibs.length with h1 | h1
    · rw [List.getElem?_append_left h1] at hi
      rw [List.getElem?_append_left (by rw [← h.dl]; exact h1)] at hn
      obtain ⟨iv, h2, h3⟩ := h.dec i b n hi hn
      exact ⟨iv, hdd _ _ h2, h3.sub U hdd⟩
    · rw [List.getElem?_append_right h1] at hi
      rw [List.getElem?_append_right (by rw [← h.dl]; exact h1)] at hn
      have h0 : i - ibs.length = 0 := by
        rcases Nat.eq_zero_or_pos (i - ibs.length) with h' | h'
        · exact h'
        · rw [List.getElem?_eq_none (by simp; omega)] at hi; cases hi
      rw [h0] at hi
      rw [← h.dl, h0] at hn
      simp at hi hn; subst hi; subst hn
      exact ⟨iv, (hdel_ne (by omega)).trans hib, hiv.sub U hhd⟩
  · have := hel.bound h.bd s; rw [List.length_append]; exact this
  · rw [List.length_append, List.length_append]
    have h1 : (restT x.1 ts).length ≤ ts.length := List.length_filter_le _ _
    have := h.tn; simp only [List.length_cons, List.length_nil]; omega
  · have h1 := h.llo c hc
    refine ⟨by rw [hRl c (h.lsl.lt hlt hc).2]; exact h1.1, h1.2.1, fun e => ?_⟩
    rcases hdo c e with h2 | h2
    · exact h1.2.2 h2
    · have := (h.lsl.lt hlt hc).2; omega
end
theorem filter_split {st : List St} (p : Nat → Bool) {k : Nat} (h : k < st.length) : st.filter (fun s => p s.1) = (st.take k).filter (fun s => p s.1) ++ (if p st[k].1 then st[k] :: (st.drop (k + 1)).filter (fun s => p s.1) else (st.drop (k + 1)).filter (fun s => p s.1)) := by
  have : st = st.take k ++ st[k] :: st.drop (k + 1) := by rw [← List.drop_eq_getElem_cons h, List.take_append_drop]
  conv => lhs; rw [this]
  rw [List.filter_append, List.filter_cons]
theorem filter_take {st : List St} (p : Nat → Bool) {k : Nat} (h : k < st.length) : (st.take (k + 1)).filter (fun s => p s.1) = (st.take k).filter (fun s => p s.1) ++ (if p st[k].1 then [st[k]] else []) := by
  rw [List.take_succ_eq_append_getElem h, List.filter_append]
  congr 1
  by_cases hp : p st[k].1 <;> simp [hp]
theorem s43 (n : Nat) (E : List NE) (hg : GOk n E) (hn40 : n ≤ 40) (sv kv : Value) (keep : List Bool) (hkl : keep.length = n) (hcl : ∀ u v, adj E u v → keep.getD u false = keep.getD v false) (H : Hp) (N : Nat) (hv : RdS U H sv 3 (necs E)) (hk : RdS U H kv 1 (bools keep)) : Spec U 43 #[(.agg #[(.int .i64 ((n : Nat) : Int)), sv]), kv] H N (fun v H' N' => ∃ os, IsSl H' v 3 1 (nats os) ∧ (∀ c, blkOf v = some c → N ≤ c) ∧ Best (adj E) (fun v => v < n ∧ keep.getD v false = true) os ∧ Sub H H' ∧ N ≤ N') := by
  obtain ⟨p, cap, rfl, hc, hp⟩ := hv.edges U
  obtain ⟨kp, kcap, rfl, hkc, hkp⟩ := hk.cells1 U
  rw [bools_length] at hkc hkp hk
  rw [bools_length]
  refine spec_marks U pf_43 (m := 85) rfl rfl (by simp) fun hBN hlt => ?_
  obtain ⟨J, hJ⟩ := Has.ex (T := argsT #[(.agg #[(.int .i64 ((n : Nat) : Int)), (.slice p E.length cap)]), (.slice kp keep.length kcap)]) (l := [(0, (.agg #[(.int .i64 ((n : Nat) : Int)), (.slice p E.length cap)])), (1, (.slice kp keep.length kcap))]) ⟨rfl, rfl, trivial⟩
  rw [hJ]; clear hJ
  repeat (first|refine nt ?_|refine nq ?_|refine wq U ?_|refine wi_seq_wc U ?_)
  refine wg U ?_
  refine wl_op U rfl rfl (op_box U rfl rfl ?_)
  refine wl_op U rfl rfl (op_alloc U z_26 rfl ?_)
  refine wz U ?_
  repeat (first|refine nt ?_|refine nq ?_|refine wq U ?_|refine wi_seq_wc U ?_)
  refine wg U ?_
  refine wr U (rd_load2 U el_24 rfl (v0 := (.int .i64 ((n : Nat) : Int))) (v1 := (.slice p E.length cap))  (by rw [rhn U (b := N) (c := (N + 1)) (by omega), rhq U (by omega)]; rfl) (by rw [rhn U (b := N) (c := (N + 1)) (by omega), rhq U (by omega)]; rfl)) rfl rfl ?_
  refine wl_op U rfl rfl (op_call U Tryz.f61 rfl rfl pf_61 (by kernel_rfl) (by kernel_rfl) ((s61 U n E _ hg _ _ (hv.sub U (((Sub.refl _).hset (fresh hlt (by omega))).hset (fresh hlt (by omega))))).mono U ?_))
  rintro _ H2 N2 ⟨hnr0, hs2, hN2⟩
  have hnr := hnr0
  obtain ⟨np, ncap, nus, rfl, hnp, hnus, hnv⟩ := hnr0.open U
  have hx_1 := hs2 N _ (by first|(rw [hsn (b := N) (c := (N + 1)) (by omega), hsy]; done) | (rw [hsn (b := N) (c := (N + 1)) (by omega), hsy]; rfl))
  have hx_2 := hs2 (N + 1) _ (by first|(rw [hsy]; done) | (rw [hsy]; rfl))
  have hs_3 := (((Sub.refl _).hset (fresh hlt (by omega))).hset (fresh hlt (by omega))).trans hs2
  refine wl_own U fun hBN2 hlt2 => ?_
  refine wr U (rd_build U (cells := #[(.slice np ((nearL n E).length) ncap), (.slice none 0 0), (.slice none 0 0)]) (by unfold P; kernel_rfl)) rfl rfl ?_
  refine wl_op U rfl rfl (op_box U rfl rfl ?_)
  refine wl_op U rfl rfl (op_alloc U z_97 rfl ?_)
  refine wl_op0 U rfl (op_store U (vs := [(.pointer (some ⟨N2, 0, none⟩))]) (cs := [(.pointer none)]) el_97 rfl rfl rfl rfl (one1 rfl) (by first|(rw [hsy]; done) | (rw [hsy]; rfl)) (by omega) (by simp) ?_)
  refine wz U ?_
  repeat (first|refine nt ?_|refine nq ?_|refine wq U ?_|refine wi_seq_wc U ?_)
  refine wg U ?_
  refine wr U ((ra U).to (v' := (.slice none 0 0)) rfl) rfl rfl ?_
  refine wz U ?_
  repeat (first|refine nt ?_|refine nq ?_|refine wq U ?_|refine wi_seq_wc U ?_)
  refine wg U ?_
  refine wr U (rd_load2 U el_24 rfl (v0 := (.int .i64 ((n : Nat) : Int))) (v1 := (.slice p E.length cap))  (by rw [rhn U (b := N) (c := (N2 + 1)) (by omega), rhn U (b := N) (c := (N2 + 1)) (by omega), rhn U (b := N) (c := N2) (by omega), rrw U (by omega) hx_1]; rfl) (by rw [rhn U (b := N) (c := (N2 + 1)) (by omega), rhn U (b := N) (c := (N2 + 1)) (by omega), rhn U (b := N) (c := N2) (by omega), rrw U (by omega) hx_1]; rfl)) rfl rfl ?_
  refine wl_op U rfl rfl (op_call U Tryz.f62 rfl rfl pf_62 (by kernel_rfl) (by kernel_rfl) ((s62 U n E _ hg _ _ (hv.sub U (((hs_3.hset (fresh hlt (by omega))).hset (fresh hlt (by omega))).hset (fresh hlt (by omega))))).mono U ?_))
  rintro _ H3 N3 ⟨ov, Wd, st, rfl, hst, hrd, hs3, hN3⟩
  have hs23 : Sub H2 H3 := ((((Sub.refl H2).hset (fresh hlt2 (by omega))).hset (fresh hlt2 (by omega))).hset (fresh hlt2 (by omega))).trans hs3
  have hx_4 := hs3 N _ (by rw [hsn (b := N) (c := (N2 + 1)) (by omega), hsn (b := N) (c := (N2 + 1)) (by omega), hsn (b := N) (c := N2) (by omega)]; exact hx_1)
  have hx_5 := hs3 (N + 1) _ (by rw [hsn (b := (N + 1)) (c := (N2 + 1)) (by omega), hsn (b := (N + 1)) (c := (N2 + 1)) (by omega), hsn (b := (N + 1)) (c := N2) (by omega)]; exact hx_2)
  have hx_6 := hs3 N2 _ (by first|(rw [hsn (b := N2) (c := (N2 + 1)) (by omega), hsn (b := N2) (c := (N2 + 1)) (by omega), hsy]; done) | (rw [hsn (b := N2) (c := (N2 + 1)) (by omega), hsn (b := N2) (c := (N2 + 1)) (by omega), hsy]; rfl))
  have hx_7 := hs3 (N2 + 1) _ (by first|(rw [hsy]; done) | (rw [hsy]; rfl))
  have hs_8 := (((hs_3.hset (fresh hlt (by omega))).hset (fresh hlt (by omega))).hset (fresh hlt (by omega))).trans hs3
  refine wr U ((rm U).to (v' := (.tuple #[ov, (.int .i64 Wd)])) rfl) rfl rfl ?_
  refine wr U ((rd_extract U rfl rfl).to (v' := ov) rfl) rfl rfl ?_
  refine wr U ((rd_extract U rfl rfl).to (v' := (.int .i64 Wd)) rfl) rfl rfl ?_
  refine wr U ((ra U).to (v' := ov) rfl) rfl rfl ?_
  refine wr U ((ra U).to (v' := (.int .i64 Wd)) rfl) rfl rfl ?_
  refine wz U ?_
  obtain ⟨us, hou, hul, hunv⟩ := hrd
  obtain ⟨op, ok, ocap, rfl, hoc, hok, hop⟩ := hou.out U
  obtain rfl : ok = st.length := by rw [stc_length hul] at hok; omega
  repeat (first|refine nt ?_|refine nq ?_|refine wq U ?_|refine wi_seq_wc U ?_)
  refine wg U ?_
  refine wr U ((rm U).to (v' := (.slice op st.length ocap)) rfl) rfl rfl ?_
  refine wr U ((rd_len' U sl_102 rfl).to (v' := (.int .i64 ((st.length : Nat) : Int))) rfl) rfl rfl ?_
  refine wr U ((rm U).to (v' := (.int .i64 0)) rfl) rfl rfl ?_
  refine wz U ?_
  repeat (first|refine nt ?_|refine nq ?_)
  refine wc_own U fun hBN3 hlt3 => ?_
  obtain ⟨Hb, hHb⟩ : ∃ F, hdel H3 N2 = F := ⟨_, rfl⟩
  have hbc : ∀ c, c ≠ N2 → Hb c = H3 c := fun c h1 => by rw [← hHb, hdel_ne h1]
  have hbn : Hb N2 = none := by rw [← hHb]; simp [hdel]
  have hb3 : Sub Hb H3 := fun c o hc => by rw [← hbc c (fun e => by rw [e, hbn] at hc; cases hc)]; exact hc
  have hHHb : Sub H Hb := fun c o hc => by have := (hlt c o hc).2; rw [hbc c (by omega)]; exact hs_8 c o hc
  have ht5b : Hb (N2 + 1) = some (.row 97 0 [.pointer (some ⟨N2, 0, none⟩)] 1) := (hbc _ (by omega)).trans hx_7
  have hcbb : Hb (N + 1) = some (.row 26 0 [.slice none 0 0] 1) := (hbc _ (by omega)).trans hx_5
  have hH2b : Sub H2 Hb := fun c o hc => by have := (hlt2 c o hc).2; rw [hbc c (by omega)]; exact hs23 c o hc
  have hiD : Sub (hiH (N2 + 2) H3) (hdel Hb (N + 1)) := fun c o hc => by unfold hiH at hc; split at hc; cases hc; rw [hdel_ne (by omega), hbc c (by omega)]; exact hc
  have hdb : ∀ F : Hp, Sub (hdel F (N + 1)) F := fun F c o hc => by unfold hdel at hc; split at hc; cases hc; exact hc
  have houD := hou.sub U hiD; have hunD := hunv.sub U hiD
  obtain ⟨p0, hp0⟩ : ∃ p0 : Nat → Bool, (fun v => keep.getD v false) = p0 := ⟨_, rfl⟩
  have hp0e : ∀ v, p0 v = keep.getD v false := fun v => by rw [← hp0]
  have hpc : ∀ u v, adj E u v → p0 u = p0 v := fun u v ha => by rw [hp0e, hp0e]; exact hcl u v ha
  have hstl : st.length ≤ n := by
    have := nodup_len n (st.map (·.1)) hst.sok.nodup (fun u hu => (hst.all u).1 hu)
    simpa using this
  have hskp : Sok (adj E) (st.filter fun s => p0 s.1) := hst.sok.filter p0 fun s hs hps u hu => (hst.near (fun v => p0 v = true) (fun u v ha => by rw [hpc u v ha]) s hs u hu).1 hps
  repeat (first|refine nt ?_|refine nq ?_|refine wq U ?_|refine wi_seq_wc U ?_)
  refine wc_block U ?_
  have hslv0 : Slv U E N2 (N + 1) (.slice np ((nearL n E).length) ncap) Hb Hb H3 [] [] (.slice none 0 0) (.slice none 0 0) (.slice none 0 0) [] [] [] [] [] := ⟨Sub.refl _, hb3, hbn, (fun c hc => by cases hc), (fun e => by cases e), hx_6, RdS.nil U, ⟨rfl, fun i u t hu => by cases hu⟩, .inl ⟨rfl, rfl⟩, rfl, (fun i ib inn hi => by cases hi), .nil [], (fun s => Nat.le_refl _), Nat.le_refl _, .inl ⟨rfl, rfl⟩, rfl, ⟨rfl, fun i u t hu => by cases hu⟩, (fun c hc => by cases hc), hcbb⟩
  refine wc_loop U (fun m T H' N' => ∃ (k : Nat) (R : Hp) (tv dv lv : Value) (tus : List (Value × Value)) (ts : List Tab) (ibs : List Nat) (inns : List (List Bool)) (lus : List Value), k ≤ st.length ∧ m = st.length - k ∧ Has T [(1, (.slice kp keep.length kcap)), (2, (.pointer (some ⟨N, 0, none⟩))), (4, (.pointer (some ⟨(N + 1), 0, none⟩))), (5, (.pointer (some ⟨(N2 + 1), 0, none⟩))), (6, lv), (26, (.slice op st.length ocap)), (27, (.int .i64 ((st.length : Nat) : Int))), (28, (.int .i64 ((k : Nat) : Int)))] ∧ Slv U E N2 (N + 1) (.slice np ((nearL n E).length) ncap) Hb R H' ((st.take k).filter fun s => p0 s.1) ((st.take k).filter fun s => p0 s.1) tv dv lv tus ts ibs inns lus ∧ N3 ≤ N') st.length ⟨0, Hb, _, _, _, _, _, _, _, _, Nat.zero_le _, rfl, ⟨rfl, rfl, rfl, rfl, rfl, rfl, rfl, rfl, trivial⟩, hslv0, Nat.le_refl _⟩ ?_
  rintro m T H4 N4 ⟨k, R, tv, dv, lv, tus, ts, ibs, inns, lus, hk1, rfl, hT, hS, hN4⟩
  obtain ⟨J, rfl⟩ := hT.ex
  refine wc_own U fun hBN4 hlt4 => ?_
  have hb4 : Sub Hb H4 := hS.base.trans hS.sub
  repeat (first|refine nt ?_|refine nq ?_|refine wq U ?_)
  refine wg U ?_
  refine wr U (rd_lss U rfl rfl) rfl rfl ?_
  refine wz U ?_
  repeat (first|refine nt ?_|refine nq ?_|refine wq U ?_)
  refine wcd U (t := (decide (((k : Nat) : Int) < ((st.length : Nat) : Int)))) rfl (fun hck => ?_) fun hck => ?_
  · replace hck := of_decide_eq_true hck
    refine wsk U ?_
    repeat (first|refine nt ?_|refine nq ?_)
    have hk2 : k < st.length := by omega
    obtain ⟨ob, ooff, rfl⟩ := hop (by omega)
    obtain ⟨u, hu⟩ := get_ex (l := us) (i := k) (by omega)
    obtain ⟨hg1, hg2⟩ := stc_get hul hk2 hu
    have hur := hunD.2 k u st[k].2 hu (by rw [List.getElem?_map, List.getElem?_eq_getElem hk2]; rfl)
    obtain ⟨up, ucap, rfl, huc, hup⟩ := hur.nums U
    have hxm : st[k] ∈ st := List.getElem_mem hk2
    have hxn : st[k].1 < n := (hst.all _).1 (List.mem_map.2 ⟨_, hxm, rfl⟩)
    obtain ⟨kb, koff, rfl⟩ := hkp (by omega)
    obtain ⟨bk, hbk⟩ := get_ex (l := keep) (i := st[k].1) (by omega)
    have hpk : p0 st[k].1 = bk := by rw [hp0e, List.getD_eq_getElem?_getD, hbk]; rfl
    have hou4 := houD.sub U ((hdb Hb).trans hb4)
    repeat (first|refine nt ?_|refine nq ?_|refine wq U ?_)
    refine wc_block U ?_
    repeat (first|refine nt ?_|refine nq ?_|refine wq U ?_)
    refine wg U ?_
    refine wr U (rd_idxN U (j := k) sl_102 rfl rfl (by omega)) rfl rfl ?_
    refine wr U (rd_load2 U el_106 rfl (v0 := (.int .i64 ((st[k].1 : Nat) : Int))) (v1 := (.slice up (st[k].2.length) ucap))  (hou4.get U hg1) (hou4.get U hg2)) rfl rfl ?_
    refine wl_op U rfl rfl (op_alloc U z_106 rfl ?_)
    refine wl_op0 U rfl (op_store U (vs := [(.int .i64 ((st[k].1 : Nat) : Int)), (.slice up (st[k].2.length) ucap)]) (cs := [(.int .i64 0), (.slice none 0 0)]) el_106 rfl rfl rfl rfl (one2 rfl rfl) (by first|(rw [hsy]; done) | (rw [hsy]; rfl)) (by omega) (by simp) ?_)
    refine wz U ?_
    repeat (first|refine nt ?_|refine nq ?_)
    refine wc_gen U (fun R => R N4 = some (.row 106 0 [(.int .i64 ((st[k].1 : Nat) : Int)), (.slice up (st[k].2.length) ucap)] 2) ∧ Sub _ R) ⟨(by first|(rw [hsy]; done) | (rw [hsy]; rfl)), (((Sub.refl _).hset (fresh hlt4 (by omega))).hset (fresh hlt4 (by omega)))⟩ ?_
    rintro H5 ⟨hx_9, hs5⟩ hBNH5 hltH5
    have hb5 := hb4.trans hs5
    repeat (first|refine nt ?_|refine nq ?_|refine wq U ?_)
    refine wg U ?_
    refine wr U ((rm U).to (v' := (.slice (some ⟨kb, koff, none⟩) keep.length kcap)) rfl) rfl rfl ?_
    refine wr U ((rfa U fb_106_0 rfl).to (v' := (.pointer (some ⟨N4, 0, none⟩))) rfl) rfl rfl ?_
    refine wr U (rl1 U el_3 rfl (v := (.int .i64 ((st[k].1 : Nat) : Int))) (by rw [rrw U (by omega) hx_9]; rfl)) rfl rfl ?_
    refine wr U (rd_idx1 U (j := st[k].1) sl_67 rfl rfl (by omega)) rfl rfl ?_
    refine wr U (rl1 U el_4 rfl (v := (.bool bk)) ((hk.sub U (hHHb.trans hb5)).get U (bools_get hbk))) rfl rfl ?_
    refine wz U ?_
    repeat (first|refine nt ?_|refine nq ?_|refine wq U ?_)
    refine wcd U (t := bk) rfl (fun hkb => ?_) fun hkb => ?_
    · skip
      have hS5 := hS.grow U hs5
      have hpt : p0 st[k].1 = true := hpk.trans hkb
      have hSl : ((st.take k).filter fun s => p0 s.1).length ≤ k := Nat.le_trans (List.length_filter_le _ _) (by rw [List.length_take]; omega)
      have hfs := filter_split p0 hk2
      rw [if_pos hpt] at hfs
      obtain ⟨hok1, hsk1⟩ := hS.run.tok (post := st[k] :: (st.drop (k + 1)).filter fun s => p0 s.1) ⟨by simp, by simp, by simp, by simp⟩ (by rw [← hfs]; exact hskp)
      have hx1 : st[k].1 ∉ st[k].2 := fun hm => hsk1.2.1 (hsk1.2.2.1 _ hm)
      have hxb : ∀ y ∈ st[k].2, y < n := fun y hy => (hst.all y).1 (hst.sok.near_mem _ hxm y hy)
      have hxs := hst.sorted _ hxm
      have hxl := nodup_len n st[k].2 (hxs.imp Nat.ne_of_lt) hxb
      have htl : ∀ t ∈ ts, t.1.length ≤ 60 := fun t ht => by
        have := nodup_len n t.1 (hok1.nd t ht) (fun y hy => (hst.all y).1 (by
          have := hok1.sub t ht y hy
          rw [List.mem_map] at this ⊢
          obtain ⟨s, hs, rfl⟩ := this
          rcases List.mem_cons.1 hs with rfl | hs
          · exact ⟨_, hxm, rfl⟩
          · exact ⟨s, List.mem_of_mem_drop (List.mem_filter.1 hs).1, rfl⟩))
        omega
      repeat (first|refine nt ?_|refine nq ?_|refine wq U ?_)
      refine wg U ?_
      refine wr U ((rm U).to (v' := lv) rfl) rfl rfl ?_
      refine wr U (rd_load2 U el_106 rfl (v0 := (.int .i64 ((st[k].1 : Nat) : Int))) (v1 := (.slice up (st[k].2.length) ucap))  (by rw [rrw U (by omega) hx_9]; rfl) (by rw [rrw U (by omega) hx_9]; rfl)) rfl rfl ?_
      refine wl_op U rfl rfl (op_bs U sl_102 rfl (by decide) (by decide) [(.agg #[(.int .i64 ((st[k].1 : Nat) : Int)), (.slice up (st[k].2.length) ucap)])] rfl (by simp [Value.cells]) rfl (cs := [(.int .i64 ((st[k].1 : Nat) : Int)), (.slice up (st[k].2.length) ucap)]) rfl ?_)
      refine wl_op U rfl rfl (op_append1 U (H0 := _) (cs := stc ((st.take k).filter fun s => p0 s.1) lus) (ys := [(.int .i64 ((st[k].1 : Nat) : Int)), (.slice up (st[k].2.length) ucap)]) sl_102 rfl (by decide) rfl hS5.lsl (fun hc => by have := (hS5.lsl.lt hltH5 hc).2; omega) rfl rfl rfl (by omega) (one2 rfl rfl) (by rw [stc_length hS.ll]; omega) (by rw [stc_length hS.ll]; omega) ?_)
      intro wA HA NA hNA hslA hfrA hloA
      refine wr U ((ra U).to (v' := wA) rfl) rfl rfl ?_
      refine wz U ?_
      repeat (first|refine nt ?_|refine nq ?_)
      refine wc_own U fun hBNA hltA => ?_
      obtain ⟨cA, hcA1, hcA2, hcA3⟩ := hloA
      have hkA : ∀ c, c < N4 + 1 → blkOf lv ≠ some c → HA c = H5 c := fun c hc hne => (hfrA c (by omega) hne).trans (hsn (by omega))
      have hSA := hS5.append U (x := st[k]) hltH5 hkA hslA hcA1 (hcA3.imp id (by omega)) (hur.sub U (fun c o hc => by unfold hdel at hc ⊢; split at hc; cases hc; rename_i hne; rw [if_neg hne]; exact hS.base c o hc))
      have hbxA := (hkA N4 (by omega) (fun h => by have := (hS.lsl.lt hlt4 h).2; omega)).trans hx_9
      have ht5A := hSA.sub _ _ (hSA.base _ _ ht5b)
      have hur2 := (hur.sub U (hdb Hb)).sub U hSA.base
      repeat (first|refine nt ?_|refine nq ?_|refine wq U ?_)
      refine wg U ?_
      refine wr U (rl1 U el_97 rfl (v := (.pointer (some ⟨N2, 0, none⟩))) (by rw [rrw U (by omega) ht5A]; rfl)) rfl rfl ?_
      refine wr U (rd_load2 U el_106 rfl (v0 := (.int .i64 ((st[k].1 : Nat) : Int))) (v1 := (.slice up (st[k].2.length) ucap))  (by rw [rrw U (by omega) hbxA]; rfl) (by rw [rrw U (by omega) hbxA]; rfl)) rfl rfl ?_
      refine wl_op U rfl rfl (op_call U Tryz.f63 rfl rfl pf_63 (by kernel_rfl) (by kernel_rfl) ((s63 U n E hg N2 _ tv dv st[k] tus ts _ (ibs.map clo) _ R HA NA hxn hxs (by omega) hxb hx1 hok1 (fun s => by have := hS.bd s; omega) (by have := hS.tn; omega) htl hSA.row hSA.sub hSA.rsb hSA.rdv hSA.dsb ((hnr.sub U hH2b).sub U hSA.base) hur2 hSA.tsl hSA.tbs hSA.dsl (by have := hS.run.len; rw [List.length_map, hS.dl]; omega)).mono U ?_))
      rintro _ H6 N6 ⟨R2, tv2, dv2, tus2, t, inn, ib, iv, hel, hRR, hRH, hRl, hfr, hsb2, hdn2, hdo2, hds2, hrow2, htv2, htb2, hdc2, hibN, hib, hiv, hN6⟩
      refine wz U ?_
      repeat (first|refine nt ?_|refine nq ?_)
      have hSE := hSA.elim U hltA hel hRR hRH hRl hfr hsb2 hdn2 hdo2 hds2 hrow2 htv2 htb2 hdc2 hibN hib hiv
      repeat (first|refine nt ?_|refine nq ?_|refine wq U ?_)
      refine wg U ?_
      refine wr U (rd_add U rfl rfl (by omega) (by omega)) rfl rfl ?_
      refine wr U ((rm U).to (v' := (.int .i64 (((k : Nat) : Int) + 1))) rfl) rfl rfl ?_
      refine wz U ?_
      repeat (first|refine nt ?_|refine nq ?_)
      refine ⟨st.length - (k + 1), by omega, k + 1, R2, tv2, dv2, wA, tus2, restT st[k].1 ts ++ [t], ibs ++ [ib], inns ++ [inn], lus ++ [(.slice up (st[k].2.length) ucap)], by omega, rfl, ⟨rfl, rfl, rfl, rfl, rfl, rfl, rfl, rfl, trivial⟩, ?_, by omega⟩
      rw [filter_take p0 hk2, if_pos hpt]; exact hSE
    · skip
      have hS5 := hS.grow U hs5
      have hpt : ¬ p0 st[k].1 = true := by rw [hpk, hkb]; simp
      refine wsk U ?_
      repeat (first|refine nt ?_|refine nq ?_)
      repeat (first|refine nt ?_|refine nq ?_|refine wq U ?_)
      refine wg U ?_
      refine wr U (rd_add U rfl rfl (by omega) (by omega)) rfl rfl ?_
      refine wr U ((rm U).to (v' := (.int .i64 (((k : Nat) : Int) + 1))) rfl) rfl rfl ?_
      refine wz U ?_
      repeat (first|refine nt ?_|refine nq ?_)
      refine ⟨st.length - (k + 1), by omega, k + 1, R, tv, dv, lv, tus, ts, ibs, inns, lus, by omega, rfl, ⟨rfl, rfl, rfl, rfl, rfl, rfl, rfl, rfl, trivial⟩, ?_, by omega⟩
      rw [filter_take p0 hk2, if_neg hpt, List.append_nil]; exact hS5
  · replace hck := of_decide_eq_false hck
    refine wc_exit U ?_
    repeat (first|refine xt ?_|refine xps (by decide) ?_)
    refine xbl ?_
    repeat (first|refine nt ?_|refine nq ?_)
    have hkl2 : k = st.length := by omega
    rw [hkl2, List.take_length] at hS
    have hb44 := hS.sub
    repeat (first|refine nt ?_|refine nq ?_|refine wq U ?_|refine wi_seq_wc U ?_)
    refine wg U ?_
    refine wl_op U rfl rfl (op_makeMap U ?_)
    refine wl_op U rfl rfl (op_alloc U z_64 rfl ?_)
    refine wl_op0 U rfl (op_store U (vs := [(.map (some N4))]) (cs := [(.map none)]) el_64 rfl rfl rfl rfl (one1 rfl) (by first|(rw [hsy]; done) | (rw [hsy]; rfl)) (by omega) (by simp) ?_)
    refine wz U ?_
    repeat (first|refine nt ?_|refine nq ?_)
    repeat (first|refine ntD ?_|refine nqD ?_|refine wi_seq U ?_)
    refine wi_region U ?_
    refine wli_rd U ((rm U).to (v' := lv) rfl) rfl rfl ?_
    refine wli_op U rfl rfl (op_call U Tryz.f64 rfl rfl pf_64 (by kernel_rfl) (by kernel_rfl) ((s64 U lv (oneS hS.lsl).1 _ _).mono U ?_))
    rintro _ _ _ ⟨rfl, rfl, rfl⟩
    refine wli_nil U ?_
    repeat (first|refine ntD ?_|refine nqD ?_)
    refine wi_gen U (fun R5 => Sub H4 R5 ∧ R5 N4 = some (.map (kmE [])) ∧ R5 (N4 + 1) = some (.row 64 0 [.map (some N4)] 1) ∧ R5 (N4 + 2) = some (.row 102 0 [lv] 1)) ⟨?_, ?_, ?_, hsy⟩ ?_
    · exact ((((Sub.refl H4).hset (fresh hlt4 (by omega))).hset (fresh hlt4 (by omega))).hset (fresh hlt4 (by omega))).hset (fresh hlt4 (by omega))
    · exact (hsn (by omega)).trans ((hsn (by omega)).trans ((hsn (by omega)).trans hsy))
    · exact (hsn (by omega)).trans hsy
    rintro H5 ⟨hs45, hmp5, hmb5, hlb5⟩ hBN5 hlt5
    obtain ⟨S, hSd⟩ : ∃ S, st.filter (fun s => p0 s.1) = S := ⟨_, rfl⟩
    rw [hSd] at hS hskp
    have hSlen : S.length ≤ n := by rw [← hSd]; exact Nat.le_trans (List.length_filter_le _ _) hstl
    have hrl := hS.run.len
    obtain ⟨Rf, hRf0⟩ : ∃ F, hdel (hdel H5 (N + 1)) N4 = F := ⟨_, rfl⟩
    have hRf : ∀ c, c ≠ N + 1 → c ≠ N4 → Rf c = H5 c := fun c h1 h2 => by rw [← hRf0, hdel_ne h2, hdel_ne h1]
    have hRfB : ∀ b o, Rf b = some o → U.B ≤ b := fun b o h => by rw [← hRf0] at h; unfold hdel at h; split at h; cases h; split at h; cases h; exact (hlt5 b o h).1
    have hRfN : ∀ c, c = N + 1 ∨ c = N4 → Rf c = none := fun c hc => by rw [← hRf0]; unfold hdel; rcases hc with h | h <;> subst h <;> simp
    have h4f : ∀ c o, H4 c = some o → c ≠ N + 1 → Rf c = some o := fun c o hc h1 => by rw [hRf c h1 (by have := (hlt4 c o hc).2; omega)]; exact hs45 c o hc
    have hQf : Sub (hdel R (N + 1)) Rf := fun c o hc => by unfold hdel at hc; split at hc; cases hc; exact h4f c o (hS.sub c o hc) (by assumption)
    have hrcb : ∀ c, R c = none → c ≠ N + 1 := fun c hc e => by rw [e, hS.rcb] at hc; cases hc
    have hdvf := hS.dsl.frame (H' := Rf) fun c o hc ho => h4f c o ho (hrcb c (hS.rdv c hc))
    have hlvf := hS.lsl.frame (H' := Rf) fun c o hc ho => h4f c o ho (hrcb c (hS.llo c hc).1)
    have hsbf := h4f _ _ hS.row (by omega)
    have ht5f := h4f _ _ (hb4 _ _ ht5b) (by omega)
    have hmbf : Rf (N4 + 1) = _ := (hRf _ (by omega) (by omega)).trans hmb5
    have hlbf : Rf (N4 + 2) = _ := (hRf _ (by omega) (by omega)).trans hlb5
    have hlrf := hS.lrd.sub U hQf
    have hdvr := hdvf.rds U hRfB
    have hlvr := hlvf.rds U hRfB
    have hHRf : Sub H Rf := fun c o hc => h4f c o (hS.sub _ _ (hS.base _ _ (hHHb c o hc))) (by have := (hlt c o hc).2; omega)
    have hRf5 : ∀ c o, Rf c = some o → c < N4 + 3 := fun c o hc => by have h1 : c ≠ N + 1 := fun e => (by rw [hRfN c (.inl e)] at hc; cases hc); have h2 : c ≠ N4 := fun e => (by rw [hRfN c (.inr e)] at hc; cases hc); rw [hRf c h1 h2] at hc; exact (hlt5 c o hc).2
    have hcb5 := hs45 _ _ (hS.sub _ _ hS.rcb)
    obtain ⟨dp, dk, dcap, rfl, hdkl, hdkc, hdp⟩ := hdvf.form
    obtain rfl : dk = S.length := by rw [List.length_map, hS.dl, hrl] at hdkl; omega
    refine wi_block U ?_
    refine wi_rangeFunc U Tryz.f100 rfl rfl pf_100 (by kernel_rfl) (by kernel_rfl) (by simp) (fun Rc hround => ?_)
    refine (s100 U (N4 + 3 + 1) (N4 + 2) lv S lus hS.ll (by omega) (fun r H' N' => H' (N4 + 3 + 1) = some (Rc .ready) ∧ H' (N4 + 3) = some (.obj (.deferred (some []))) ∧ ∃ ks ov, Back S inns r ks ∧ H' (N + 1) = some (.row 26 0 [ov] 1) ∧ IsSl H' ov 3 1 (nats ks) ∧ (∀ c, blkOf ov = some c → N4 + 3 + 2 ≤ c) ∧ H' N4 = some (.map (kmE ks)) ∧ Sub Rf H' ∧ N4 + 3 + 2 ≤ N') ?_ ?_ _ _ ?_).mono U ?_
    · rintro r H6 N6 ⟨_, _, ks, ov, _, _, _, _, _, hs6, _⟩; exact ⟨hs6 _ _ hlbf, hlvr.sub U hs6⟩
    · rintro r hr u hu H6 N6 ⟨hl6, hd6, ks, ov, hBk, hcb6, hov, hob, hmp, hs6, hN6⟩
      obtain ⟨up, ucap, rfl, huc, hup⟩ := (hlrf.2 r u S[r].2 hu (by rw [List.getElem?_map, List.getElem?_eq_getElem hr]; rfl)).nums U
      have hur := hlrf.2 r _ S[r].2 hu (by rw [List.getElem?_map, List.getElem?_eq_getElem hr]; rfl)
      refine hround hl6 rfl ?_
      refine wi_has U (l := [(4, (.pointer (some ⟨(N + 1), 0, none⟩))), (5, (.pointer (some ⟨(N2 + 1), 0, none⟩))), (11, (.pointer (some ⟨(N4 + 1), 0, none⟩))), (48, (.int .i64 ((r : Nat) : Int))), (49, (.agg #[(.int .i64 ((S[r].1 : Nat) : Int)), (.slice up (S[r].2.length) ucap)]))]) ?_ fun J2 => ?_
      · exact ⟨rfl, rfl, rfl, rfl, rfl, trivial⟩
      refine wi_own U fun hBN6 hlt6 => ?_
      repeat (first|refine ntD ?_|refine nqD ?_|refine wi_seq U ?_)
      refine wi_region U ?_
      refine wli_rd U ((ra U).to (v' := (.int .i64 ((r : Nat) : Int))) rfl) rfl rfl ?_
      refine wli_nil U ?_
      repeat (first|refine ntD ?_|refine nqD ?_|refine wi_seq U ?_)
      refine wi_region U ?_
      refine wli_op U rfl rfl (op_alloc U z_106 rfl ?_)
      refine wli_op0 U rfl (op_store U (vs := [(.int .i64 ((S[r].1 : Nat) : Int)), (.slice up (S[r].2.length) ucap)]) (cs := [(.int .i64 0), (.slice none 0 0)]) el_106 rfl rfl rfl rfl (one2 rfl rfl) (by first|(rw [hsy]; done) | (rw [hsy]; rfl)) (by omega) (by simp) ?_)
      refine wli_nil U ?_
      repeat (first|refine ntD ?_|refine nqD ?_)
      refine ⟨rfl, rfl, (hsn (by omega)).trans ((hsn (by omega)).trans hl6), ?_⟩
      have hovl : ∀ c, blkOf ov = some c → c < N6 := fun c hc => (hov.lt hlt6 hc).2
      refine wi_gen U (fun R7 => R7 N6 = some (.row 106 0 [(.int .i64 ((S[r].1 : Nat) : Int)), (.slice up (S[r].2.length) ucap)] 2) ∧ R7 (N + 1) = some (.row 26 0 [ov] 1) ∧ IsSl R7 ov 3 1 (nats ks) ∧ R7 N4 = some (.map (kmE ks)) ∧ Sub Rf R7 ∧ R7 (N4 + 3 + 1) = some (Rc .busy) ∧ R7 (N4 + 3) = some (.obj (.deferred (some [])))) ⟨?_, ?_, ?_, ?_, ?_, hsy, ?_⟩ ?_
      · exact (hsn (by omega)).trans hsy
      · exact (hsn (by omega)).trans ((hsn (by omega)).trans ((hsn (by omega)).trans hcb6))
      · exact hov.at fun c hc => by have := hob c hc; have := hovl c hc; exact (hsn (by omega)).trans ((hsn (by omega)).trans (hsn (by omega)))
      · exact (hsn (by omega)).trans ((hsn (by omega)).trans ((hsn (by omega)).trans hmp))
      · exact ((hs6.hset (fresh (M := 0) (N := N6) (fun b o h => ⟨Nat.zero_le _, by have := hRf5 b o h; omega⟩) (Nat.le_refl _))).hset (fresh (M := 0) (N := N6) (fun b o h => ⟨Nat.zero_le _, by have := hRf5 b o h; omega⟩) (Nat.le_refl _))).hset (fresh (M := 0) (N := N4 + 3) (fun b o h => ⟨Nat.zero_le _, hRf5 b o h⟩) (by omega))
      · exact (hsn (by omega)).trans ((hsn (by omega)).trans ((hsn (by omega)).trans hd6))
      rintro H7 ⟨hx7, hcb7, hov7, hmp7, hs7, hl7, hd7⟩ hBN7 hlt7
      have hur7 := hur.sub U hs7
      have hxl : S[r].2.length ≤ 60 := by
        have hSub : ∀ s ∈ S, s ∈ st := fun s hs => by rw [← hSd] at hs; exact (List.mem_filter.1 hs).1
        have hm := hSub _ (List.getElem_mem hr)
        have := nodup_len n S[r].2 ((hst.sorted _ hm).imp Nat.ne_of_lt) (fun y hy => (hst.all y).1 (hst.sok.near_mem _ hm y hy)); omega
      obtain ⟨sg, hsg⟩ : ∃ s : Nat → Bool, (fun v => decide (v ∈ ks)) = s := ⟨_, rfl⟩
      have hsge : ∀ v, decide (v ∈ ks) = sg v := fun v => by rw [← hsg]
      repeat (first|refine ntD ?_|refine nqD ?_|refine wi_seq U ?_)
      refine wi_block U ?_
      repeat (first|refine ntD ?_|refine nqD ?_|refine wi_seq U ?_)
      refine wi_region U ?_
      refine wli_rd U ((ra U).to (v' := (.int .i64 0)) rfl) rfl rfl ?_
      refine wli_nil U ?_
      repeat (first|refine ntD ?_|refine nqD ?_|refine wi_seq U ?_)
      refine wi_region U ?_
      refine wli_rd U ((rfa U fb_106_1 rfl).to (v' := (.pointer (some ⟨N6, 1, none⟩))) rfl) rfl rfl ?_
      refine wli_rd U (rl1 U el_26 rfl (v := (.slice up (S[r].2.length) ucap)) (by rw [rrw U (by omega) hx7]; rfl)) rfl rfl ?_
      refine wli_rd U ((rd_len' U sl_26 rfl).to (v' := (.int .i64 ((S[r].2.length : Nat) : Int))) rfl) rfl rfl ?_
      refine wli_rd U ((rm U).to (v' := (.int .i64 0)) rfl) rfl rfl ?_
      refine wli_nil U ?_
      repeat (first|refine ntD ?_|refine nqD ?_|refine wi_seq U ?_)
      refine wi_block U ?_
      refine wi_loop U (fun m T H' N' => ∃ (i : Nat), i ≤ S[r].2.length ∧ m = S[r].2.length - i ∧ Has T [(4, (.pointer (some ⟨(N + 1), 0, none⟩))), (5, (.pointer (some ⟨(N2 + 1), 0, none⟩))), (11, (.pointer (some ⟨(N4 + 1), 0, none⟩))), (12, (.int .i64 ((r : Nat) : Int))), (13, (.pointer (some ⟨N6, 0, none⟩))), (14, (.int .i64 ((encB (S[r].2.take i) sg : Nat) : Int))), (51, (.slice up (S[r].2.length) ucap)), (52, (.int .i64 ((S[r].2.length : Nat) : Int))), (53, (.int .i64 ((i : Nat) : Int)))] ∧ H7 = H' ∧ N6 + 1 = N') S[r].2.length ⟨0, Nat.zero_le _, rfl, ⟨rfl, rfl, rfl, rfl, rfl, rfl, rfl, rfl, rfl, trivial⟩, rfl, rfl⟩ ?_
      rintro m T _ _ ⟨i, hii, rfl, hT, rfl, rfl⟩
      obtain ⟨J3, rfl⟩ := hT.ex
      repeat (first|refine ntD ?_|refine nqD ?_|refine wi_seq U ?_)
      refine wi_region U ?_
      refine wli_rd U (rd_lss U rfl rfl) rfl rfl ?_
      refine wli_nil U ?_
      repeat (first|refine ntD ?_|refine nqD ?_|refine wi_seq U ?_)
      refine wi_cond U (t := (decide (((i : Nat) : Int) < ((S[r].2.length : Nat) : Int)))) rfl (fun hci => ?_) fun hci => ?_
      · replace hci := of_decide_eq_true hci
        refine wi_skip U ?_
        repeat (first|refine ntD ?_|refine nqD ?_)
        have hi1 : i < S[r].2.length := by omega
        obtain ⟨ub, uoff, rfl⟩ := hup (by omega)
        repeat (first|refine ntD ?_|refine nqD ?_|refine wi_seq U ?_)
        refine wi_block U ?_
        repeat (first|refine ntD ?_|refine nqD ?_|refine wi_seq U ?_)
        refine wi_region U ?_
        refine wli_rd U ((rm U).to (v' := (.int .i64 ((i : Nat) : Int))) rfl) rfl rfl ?_
        refine wli_rd U (rd_idx1 U (j := i) sl_26 rfl rfl (by omega)) rfl rfl ?_
        refine wli_rd U (rl1 U el_3 rfl (v := (.int .i64 ((S[r].2[i] : Nat) : Int))) (hur7.n0 U hi1)) rfl rfl ?_
        refine wli_rd U ((ra U).to (v' := (.int .i64 ((i : Nat) : Int))) rfl) rfl rfl ?_
        refine wli_rd U ((ra U).to (v' := (.int .i64 ((S[r].2[i] : Nat) : Int))) rfl) rfl rfl ?_
        refine wli_nil U ?_
        repeat (first|refine ntD ?_|refine nqD ?_|refine wi_seq U ?_)
        refine wi_region U ?_
        refine wli_rd U (rl1 U el_64 rfl (v := (.map (some N4))) (by rw [rrw U (by omega) (hs7 _ _ hmbf)]; rfl)) rfl rfl ?_
        refine wli_rd U ((rm U).to (v' := (.int .i64 ((S[r].2[i] : Nat) : Int))) rfl) rfl rfl ?_
        refine wli_rd U ((rd_lookup U um_64 key_int z_4 rfl (k := ((S[r].2[i] : Nat) : Int)) rfl (m := km ks) (.inl hmp7)).to (v' := (.bool (sg S[r].2[i]))) (by rw [look_km, hsge])) rfl rfl ?_
        refine wli_nil U ?_
        repeat (first|refine ntD ?_|refine nqD ?_|refine wi_seq U ?_)
        refine wi_cond U (t := (sg S[r].2[i])) rfl (fun hsi => ?_) fun hsi => ?_
        · skip
          have hlt2 := encB_lt (S[r].2.take i) sg
          rw [List.length_take, Nat.min_eq_left (by omega)] at hlt2
          have hp2 := pow_lt (i := i) (by omega)
          repeat (first|refine ntD ?_|refine nqD ?_|refine wi_seq U ?_)
          refine wi_region U ?_
          refine wli_rd U ((rm U).to (v' := (.int .i64 ((encB (S[r].2.take i) sg : Nat) : Int))) rfl) rfl rfl ?_
          refine wli_rd U ((rm U).to (v' := (.int .i64 ((i : Nat) : Int))) rfl) rfl rfl ?_
          refine wli_rd U ((rd_conv U u_3 u_77 rfl).to (v' := (.int .u64 ((i : Nat) : Int))) (congrArg _ (u64_nat (by omega)))) rfl rfl ?_
          refine wli_rd U ((rd_shl U rfl rfl (by omega) (by omega) (shl_lo _) (shl_hi (by omega))).to (v' := (.int .i64 ((2 ^ i : Nat) : Int))) (shl_nat _)) rfl rfl ?_
          refine wli_rd U ((rd_bits U (.inr rfl) rfl rfl (bits_or (by omega) (by omega))).to (v' := (.int .i64 ((encB (S[r].2.take (i + 1)) sg : Nat) : Int))) (by rw [or_bit hlt2, encB_take S[r].2 sg hi1, if_pos hsi])) rfl rfl ?_
          refine wli_rd U ((ra U).to (v' := (.int .i64 ((encB (S[r].2.take (i + 1)) sg : Nat) : Int))) rfl) rfl rfl ?_
          refine wli_nil U ?_
          repeat (first|refine ntD ?_|refine nqD ?_)
          repeat (first|refine ntD ?_|refine nqD ?_|refine wi_seq U ?_)
          refine wi_region U ?_
          refine wli_rd U (rd_add U rfl rfl (by omega) (by omega)) rfl rfl ?_
          refine wli_rd U ((rm U).to (v' := (.int .i64 (((i : Nat) : Int) + 1))) rfl) rfl rfl ?_
          refine wli_nil U ?_
          repeat (first|refine ntD ?_|refine nqD ?_)
          exact ⟨rfl, S[r].2.length - (i + 1), by omega, i + 1, by omega, rfl, ⟨rfl, rfl, rfl, rfl, rfl, rfl, rfl, rfl, rfl, trivial⟩, rfl, rfl⟩
        · skip
          have hst2 : encB (S[r].2.take i) sg = encB (S[r].2.take (i + 1)) sg := by rw [encB_take S[r].2 sg hi1, if_neg (by rw [hsi]; simp)]; rfl
          refine wi_skip U ?_
          repeat (first|refine ntD ?_|refine nqD ?_)
          repeat (first|refine ntD ?_|refine nqD ?_|refine wi_seq U ?_)
          refine wi_region U ?_
          refine wli_rd U (rd_add U rfl rfl (by omega) (by omega)) rfl rfl ?_
          refine wli_rd U ((rm U).to (v' := (.int .i64 (((i : Nat) : Int) + 1))) rfl) rfl rfl ?_
          refine wli_nil U ?_
          repeat (first|refine ntD ?_|refine nqD ?_)
          exact ⟨rfl, S[r].2.length - (i + 1), by omega, i + 1, by omega, rfl, ⟨rfl, rfl, rfl, rfl, rfl, by rw [← hst2]; rfl, rfl, rfl, rfl, trivial⟩, rfl, rfl⟩
      · replace hci := of_decide_eq_false hci
        refine wi_exit U ?_
        repeat (first|refine exit_thenD ?_|refine exit_pastD (by decide) ?_)
        refine exit_blockD ?_
        repeat (first|refine ntD ?_|refine nqD ?_)
        have hil : i = S[r].2.length := by omega
        have hri : r < inns.length := by omega
        have hinn := List.getElem?_eq_getElem hri
        obtain ⟨ib, hibr⟩ := get_ex (l := ibs) (i := r) (by have := hS.dl; omega)
        obtain ⟨iv, hib1, hib2⟩ := hS.dec r ib _ hibr hinn
        have hstep := hBk.step hskp hr hri
        rw [hsg] at hstep
        have hxk : S[r].1 ∉ ks := fun hm => by have h1 := hskp.drop r; rw [List.drop_eq_getElem_cons hr] at h1; exact h1.2.1 (hBk.mem _ hm)
        obtain ⟨db, doff, rfl⟩ := hdp (by omega)
        have henc : encB (S[r].2.take i) sg = encB S[r].2 sg := by rw [hil, List.take_length]
        have hs99 := s99 U (encB S[r].2 sg) ib iv inns[r] (by rw [hS.run.ilen r hr hri]; exact encB_lt _ _) H7 (N6 + 1) (hs7 _ _ (hQf _ _ hib1)) ((hib2.sub U hQf).sub U hs7)
        rw [← henc] at hs99
        repeat (first|refine ntD ?_|refine nqD ?_|refine wi_seq U ?_)
        refine wi_region U ?_
        refine wli_rd U (rl1 U el_97 rfl (v := (.pointer (some ⟨N2, 0, none⟩))) (by rw [rrw U (by omega) (hs7 _ _ ht5f)]; rfl)) rfl rfl ?_
        refine wli_rd U (rd_nilCheck U rfl) rfl rfl ?_
        refine wli_rd U ((rfa U fb_101_2 rfl).to (v' := (.pointer (some ⟨N2, 2, none⟩))) rfl) rfl rfl ?_
        refine wli_rd U (rl1 U el_99 rfl (v := (.slice (some ⟨db, doff, none⟩) S.length dcap)) (by rw [rrw U (by omega) (hs7 _ _ hsbf)]; rfl)) rfl rfl ?_
        refine wli_rd U ((rm U).to (v' := (.int .i64 ((r : Nat) : Int))) rfl) rfl rfl ?_
        refine wli_rd U (rd_idx1 U (j := r) sl_99 rfl rfl hr) rfl rfl ?_
        refine wli_rd U (rl1 U el_63 rfl (v := (.func (.func 99) #[] #[(.pointer (some ⟨ib, 0, none⟩))])) ((hdvr.sub U hs7).get U (by rw [List.getElem?_map, hibr]; rfl))) rfl rfl ?_
        refine wli_rd U ((rm U).to (v' := (.int .i64 ((encB (S[r].2.take i) sg : Nat) : Int))) rfl) rfl rfl ?_
        refine wli_op U rfl rfl (op_call U Tryz.f99 rfl rfl pf_99 (by kernel_rfl) (by kernel_rfl) ((hs99).mono U ?_))
        rintro _ _ _ ⟨rfl, rfl, rfl⟩
        refine wli_nil U ?_
        rw [← henc] at hstep
        repeat (first|refine ntD ?_|refine nqD ?_|refine wi_seq U ?_)
        refine wi_cond U (t := (inns[r].getD (encB (S[r].2.take i) sg) false)) rfl (fun hin => ?_) fun hin => ?_
        · skip
          rw [if_pos hin] at hstep
          repeat (first|refine ntD ?_|refine nqD ?_|refine wi_seq U ?_)
          refine wi_region U ?_
          refine wli_rd U (rl1 U el_64 rfl (v := (.map (some N4))) (by rw [rrw U (by omega) (hs7 _ _ hmbf)]; rfl)) rfl rfl ?_
          refine wli_rd U ((rfa U fb_106_0 rfl).to (v' := (.pointer (some ⟨N6, 0, none⟩))) rfl) rfl rfl ?_
          refine wli_rd U (rl1 U el_3 rfl (v := (.int .i64 ((S[r].1 : Nat) : Int))) (by rw [rrw U (by omega) hx7]; rfl)) rfl rfl ?_
          refine wli_op0 U rfl (op_mapUpdate U (v := .bool true) (k := ((S[r].1 : Nat) : Int)) (m := km ks) um_64 key_int rfl rfl rfl hmp7 ?_)
          refine wli_nil U ?_
          repeat (first|refine ntD ?_|refine nqD ?_)
          rw [put_km, show addK ks S[r].1 = ks ++ [S[r].1] from if_neg hxk]
          have hn4 : ∀ c, c ≠ N4 → hset H7 N4 (.map (encM encI (km (ks ++ [S[r].1])))) c = H7 c := fun c hc => hsn hc
          repeat (first|refine ntD ?_|refine nqD ?_|refine wi_seq U ?_)
          refine wi_region U ?_
          refine wli_rd U (rl1 U el_26 rfl (v := ov) (by rw [rrw U (by omega) ((hn4 _ (by omega)).trans hcb7)]; rfl)) rfl rfl ?_
          refine wli_rd U ((rfa U fb_106_0 rfl).to (v' := (.pointer (some ⟨N6, 0, none⟩))) rfl) rfl rfl ?_
          refine wli_rd U (rl1 U el_3 rfl (v := (.int .i64 ((S[r].1 : Nat) : Int))) (by rw [rrw U (by omega) ((hn4 _ (by omega)).trans hx7)]; rfl)) rfl rfl ?_
          refine wli_op U rfl rfl (op_bs U sl_26 rfl (by decide) (by decide) [(.int .i64 ((S[r].1 : Nat) : Int))] rfl (by simp [Value.cells]) rfl (cs := [(.int .i64 ((S[r].1 : Nat) : Int))]) rfl ?_)
          have hov8 := hov7.at (H' := hset H7 N4 (.map (encM encI (km (ks ++ [S[r].1]))))) fun c hc => hn4 c (by have := hob c hc; omega)
          have hksl : ks.length ≤ n := by
            have := nodup_le ks (S.map (·.1)) hBk.nd (fun v hv => by
              obtain ⟨s, hs, rfl⟩ := List.mem_map.1 (hBk.mem v hv)
              exact List.mem_map.2 ⟨s, List.mem_of_mem_drop hs, rfl⟩)
            rw [List.length_map] at this; omega
          refine wli_op U rfl rfl (op_append1 U (H0 := _) (cs := nats ks) (ys := [(.int .i64 ((S[r].1 : Nat) : Int))]) sl_26 rfl (by decide) rfl hov8 (fun hc => by have := hovl _ hc; omega) rfl rfl rfl (by omega) (one1 rfl) (by rw [nats_length]; omega) (by rw [nats_length]; omega) ?_)
          intro wA HA NA hNA hslA hfrA hloA
          have hon := oneS hslA
          have hobn : ∀ c, c < N4 + 3 + 2 → blkOf ov ≠ some c := fun c hc h => by have := hob _ h; omega
          have hlow : ∀ c, c < N4 + 3 + 2 → c ≠ N4 → HA c = H7 c := fun c hc hne => (hfrA c (by omega) (hobn c hc)).trans ((hsn (by omega)).trans (hn4 c hne))
          have hmpA : HA N4 = some (.map (kmE (ks ++ [S[r].1]))) := (hfrA N4 (by omega) (hobn _ (by omega))).trans ((hsn (by omega)).trans hsy)
          refine wli_op0 U rfl (op_store U (vs := [wA]) (cs := [ov]) el_26 rfl rfl hon.1 rfl (one1 hon.2) ((hlow _ (by omega) (by omega)).trans hcb7) (by omega) (by simp) ?_)
          refine wli_nil U ?_
          repeat (first|refine ntD ?_|refine nqD ?_)
          refine ⟨rfl, (hsn (by omega)).trans ((hlow _ (by omega) (by omega)).trans hl7), rfl, hsy, ?_⟩
          obtain ⟨cA, hcA1, hcA2, hcA3⟩ := hloA
          have hcAN : N4 + 3 + 2 ≤ cA := by rcases hcA3 with h | h; exact hob _ h; omega
          have hfin : ∀ c, c < N4 + 3 + 1 → c ≠ N4 → c ≠ N + 1 → (hset (hset HA (N + 1) (.row 26 0 [wA] 1)) (N4 + 3 + 1) (Rc .ready)) c = H7 c := fun c h1 h2 h3 => (hsn (by omega)).trans ((hsn h3).trans (hlow c (by omega) h2))
          refine ⟨(hfin _ (by omega) (by omega) (by omega)).trans hd7, ks ++ [S[r].1], wA, hstep, (hsn (by omega)).trans hsy, ?_, ?_, (hsn (by omega)).trans ((hsn (by omega)).trans hmpA), ?_, by omega⟩
          · rw [nats_append]; exact hslA.at fun c hc => by rw [hcA1] at hc; cases hc; rw [hsn (by omega), hsn (by omega)]
          · intro c hc; rw [hcA1] at hc; cases hc; exact hcAN
          · exact hs7.of fun c o hc => hfin c (by have := hRf5 c o hc; omega) (fun e => by rw [hRfN c (.inr e)] at hc; cases hc) (fun e => by rw [hRfN c (.inl e)] at hc; cases hc)
        · skip
          rw [if_neg (by rw [hin]; simp)] at hstep
          refine wi_skip U ?_
          repeat (first|refine ntD ?_|refine nqD ?_)
          refine ⟨rfl, hl7, rfl, hsy, (hsn (by omega)).trans hd7, ks, ov, hstep, (hsn (by omega)).trans hcb7, hov7.at (fun c hc => hsn (by have := hob c hc; omega)), hob, (hsn (by omega)).trans hmp7, hs7.hset (fresh (M := 0) (N := N4 + 3) (fun b o h => ⟨Nat.zero_le _, hRf5 b o h⟩) (by omega)), by omega⟩
    · refine ⟨hsy, (hsn (by omega)).trans hsy, [], .slice none 0 0, Back.start S inns hrl, (hsn (by omega)).trans ((hsn (by omega)).trans hcb5), .inl ⟨rfl, rfl⟩, (fun c hc => by cases hc), (hsn (by omega)).trans ((hsn (by omega)).trans hmp5), ?_, Nat.le_refl _⟩
      have h0 : Sub Rf H5 := fun c o hc => by rw [← hRf c (fun e => by rw [hRfN c (.inl e)] at hc; cases hc) (fun e => by rw [hRfN c (.inr e)] at hc; cases hc)]; exact hc
      exact (h0.hset (fresh (M := 0) (N := N4 + 3) (fun b o h => ⟨Nat.zero_le _, hRf5 b o h⟩) (by omega))).hset (fresh (M := 0) (N := N4 + 3) (fun b o h => ⟨Nat.zero_le _, hRf5 b o h⟩) (by omega))
    · rintro v H6 N6 ⟨hl6, hd6, ks, ov, hBk, hcb6, hov, hob, hmp, hs6, hN6⟩
      refine ⟨hl6, ?_⟩
      repeat (first|refine ntD ?_|refine nqD ?_)
      have hcb7 : (hset H6 (N4 + 3 + 1) (Rc .exhausted)) (N + 1) = some (.row 26 0 [ov] 1) := (hsn (by omega)).trans hcb6
      have hon := oneS hov
      repeat (first|refine ntD ?_|refine nqD ?_|refine wi_seq U ?_)
      refine wi_region U ?_
      refine wli_rd U (rl1 U el_26 rfl (v := ov) (by rw [rrw U (by omega) hcb7]; rfl)) rfl rfl ?_
      refine wli_op0 U rfl (op_store U (vs := [ov]) (cs := [ov]) el_26 rfl rfl hon.1 rfl (one1 hon.2) hcb7 (by omega) (by simp) ?_)
      refine wli_nil U ?_
      refine wi_ret U ?_
      repeat (first|refine ret_thenD ?_|refine ret_blockD ?_)
      have hfin : ∀ c, c ≠ N4 + 3 → c ≠ N + 1 → c ≠ N4 + 3 + 1 → (hset (hset (hset H6 (N4 + 3 + 1) (Rc .exhausted)) (N + 1) (.row 26 0 [ov] 1)) (N4 + 3) (.obj (.deferred none))) c = H6 c := fun c h1 h2 h3 => (hsn h1).trans ((hsn h2).trans (hsn h3))
      refine ⟨.inr rfl, N4 + 3, rfl, (hsn (by omega)).trans ((hsn (by omega)).trans hd6), ov, mresCell1 U rfl el_26 rfl (rd_at0 U (b := N + 1) (u := 0) (by omega) ((hsn (by omega)).trans hsy) rfl), ks, hov.at (fun c hc => hfin c (by have := hob c hc; omega) (by have := hob c hc; omega) (by have := hob c hc; omega)), (fun c hc => by have := hob c hc; omega), ?_, ?_, by omega⟩
      · have h1 := Back.told hst hpc (fun _ _ h => h.symm) (fun u h => (hg.adj_lt h).2.2 rfl) (by rw [hSd]; exact hS.run) (by rw [hSd]; exact hBk)
        exact h1.congr (fun v => by rw [hp0e]) (fun _ _ _ _ => Iff.rfl)
      · exact (hHRf.trans hs6).of fun c o hc => hfin c (by have := (hlt c o hc).2; omega) (by have := (hlt c o hc).2; omega) (by have := (hlt c o hc).2; omega)
end Go.Proofs.YtdmodppoellbkaaGreat
namespace Go.Proofs.YtdmodppoellbkaaGreat
open Go Go.RowKit
variable (U : Cx)
/-- The list of what is kept: the first 'j' of a component. -/
def keepC (n : Nat) (c : List Nat) : List Bool := (List.range n).map fun v => decide (v ∈ c)
theorem keepC_length (n : Nat) (c : List Nat) : (keepC n c).length = n := by simp [keepC]
theorem keepC_nil (n : Nat) : keepC n [] = List.replicate n false := by
  apply List.ext_getElem?; intro i; simp only [keepC, List.getElem?_map, List.getElem?_replicate]
  rcases Nat.lt_or_ge i n with h | h
  · simp [h]
  · simp [h, Nat.not_lt.2 h]
theorem keepC_set {n : Nat} {c : List Nat} {j : Nat} (hj : j < c.length) (hc : c[j] < n) : (keepC n (c.take j)).set c[j] true = keepC n (c.take (j + 1)) := by
  apply List.ext_getElem?; intro i
  rw [List.getElem?_set]
  simp only [keepC, List.length_map, List.length_range, List.getElem?_map, List.take_succ_eq_append_getElem hj, List.mem_append, List.mem_singleton]
  by_cases h : c[j] = i
  · subst h; simp [hc]
  · rw [if_neg h]
    rcases Nat.lt_or_ge i n with h1 | h1
    · simp [h1, Ne.symm h]
    · simp [Nat.not_lt.2 h1, h1]
theorem keepC_get {n : Nat} {c : List Nat} {v : Nat} (hv : v < n) : (keepC n c).getD v false = decide (v ∈ c) := by simp [keepC, List.getD_eq_getElem?_getD, hv]
theorem keepC_out {n : Nat} {c : List Nat} {v : Nat} (hv : ¬ v < n) : (keepC n c).getD v false = false := by
  rw [List.getD_eq_getElem?_getD, List.getElem?_eq_none (by rw [keepC_length]; omega)]; rfl
theorem Best.of_piece {n : Nat} {E : List NE} {c os : List Nat} (hc : ∀ v ∈ c, v < n) (h : Best (adj (onlyE E (keepC n c))) (fun v => v < n ∧ (keepC n c).getD v false = true) os) : Best (adj E) (· ∈ c) os := by
  have hp : ∀ v, (v < n ∧ (keepC n c).getD v false = true) ↔ v ∈ c := fun v => by
    constructor
    · rintro ⟨h1, h2⟩; rw [keepC_get h1] at h2; simpa using h2
    · intro h1; exact ⟨hc v h1, by rw [keepC_get (hc v h1)]; simpa using h1⟩
  exact h.congr hp fun u v hu hv => by rw [adj_only]; exact ⟨fun h => h.1, fun h => ⟨h, hu.2, hv.2⟩⟩
theorem Best.pos {E : List NE} {n : Nat} (hg : GOk n E) {p : Nat → Prop} {os : List Nat} (h : Best (adj E) p os) {v : Nat} (hv : p v) : 0 < os.length := by
  have := h.max [v] (by simp) (by simpa using hv) (by intro u hu w hw; simp at hu hw; subst hu; subst hw; exact fun ha => (hg.adj_lt ha).2.2 rfl)
  have h1 : [v].length = 1 := rfl
  omega
theorem Best.lt {ad : Nat → Nat → Prop} {p : Nat → Prop} {os : List Nat} {n : Nat} (h : Best ad p os) (hp : ∀ v, p v → v < n) : os.length ≤ n := nodup_len n os h.nd fun v hv => hp v (h.mem v hv)
theorem Bests.lt {n : Nat} {E : List NE} {cs oss : List (List Nat)} (h : Bests (adj E) cs oss) (hd : cs.Pairwise fun c d => ∀ x ∈ c, x ∉ d) (hn : cs.Pairwise fun c d => ∀ u ∈ c, ∀ v ∈ d, ¬ adj E u v) (hl : ∀ c ∈ cs, ∀ x ∈ c, x < n) : oss.flatten.length ≤ n :=
  (h.concat hd (fun _ _ ha => ha.symm) hn).lt fun v ⟨c, hc, hv⟩ => hl c hc v hv
theorem s21 (n : Nat) (E : List NE) (sv : Value) (hg : GOk n E) (hn40 : n ≤ 40) (H : Hp) (N : Nat) (hv : RdS U H sv 3 (necs E)) : Spec U 21 #[(.agg #[(.int .i64 ((n : Nat) : Int)), sv])] H N (fun v H' N' => ∃ ov os, v = .tuple #[ov, .int .i64 0] ∧ IsSl H' ov 3 1 (nats os) ∧ (∀ c, blkOf ov = some c → N ≤ c) ∧ os.Pairwise (· < ·) ∧ Best (adj E) (· < n) os ∧ Sub H H' ∧ N ≤ N') := by
  obtain ⟨p, cap, rfl, hc, hp⟩ := hv.edges U
  refine spa U pf_21 (m := 43) rfl rfl (by simp) fun hBN hlt => ?_
  obtain ⟨J, hJ⟩ := Has.ex (T := argsT #[(.agg #[(.int .i64 ((n : Nat) : Int)), (.slice p E.length cap)])]) (l := [(0, (.agg #[(.int .i64 ((n : Nat) : Int)), (.slice p E.length cap)]))]) ⟨rfl, trivial⟩
  rw [hJ]; clear hJ
  have hn := hg.hn
  repeat (first|refine nt ?_|refine nq ?_|refine wq U ?_)
  refine wg U ?_
  refine wl_op U rfl rfl (op_box U rfl rfl ?_)
  refine wr U ((ra U).to (v' := (.slice none 0 0)) rfl) rfl rfl ?_
  refine wr U ((ra U).to (v' := (.int .i64 0)) rfl) rfl rfl ?_
  refine wz U ?_
  repeat (first|refine nt ?_|refine nq ?_)
  refine wc_gen U (fun R => R N = some (.row 24 0 [(.int .i64 ((n : Nat) : Int)), (.slice p E.length cap)] 2) ∧ Sub _ R) ⟨(by first|(rw [hsy]; done) | (rw [hsy]; rfl)), ((Sub.refl _).hset (fresh hlt (by omega)))⟩ ?_
  rintro H1 ⟨hx_1, hs1⟩ hBNH1 hltH1
  repeat (first|refine nt ?_|refine nq ?_|refine wq U ?_)
  refine wg U ?_
  refine wr U (rd_load2 U el_24 rfl (v0 := (.int .i64 ((n : Nat) : Int))) (v1 := (.slice p E.length cap))  (by rw [rrw U (by omega) hx_1]; rfl) (by rw [rrw U (by omega) hx_1]; rfl)) rfl rfl ?_
  refine wl_op U rfl rfl (op_call U Tryz.f32 rfl rfl pf_32 (by kernel_rfl) (by kernel_rfl) ((s32 U n E _ hg _ _ (hv.sub U hs1)).mono U ?_))
  rintro _ H2 N2 ⟨rfl, hs2, hN2⟩
  have hx_2 := hs2 N _ hx_1
  have hs_3 := (Sub.refl _).trans hs2
  refine wr U ((rd_neq U rfl rfl).to (v' := (.bool false)) rfl) rfl rfl ?_
  refine wz U ?_
  repeat (first|refine nt ?_|refine nq ?_|refine wq U ?_)
  refine wcd U (t := false) rfl (fun h => nomatch h) fun _ => ?_
  refine wsk U ?_
  repeat (first|refine nt ?_|refine nq ?_)
  have hs12 := hs1.trans hs2
  repeat (first|refine nt ?_|refine nq ?_|refine wq U ?_)
  refine wg U ?_
  refine wr U (rd_load2 U el_24 rfl (v0 := (.int .i64 ((n : Nat) : Int))) (v1 := (.slice p E.length cap))  (by rw [rrw U (by omega) hx_2]; rfl) (by rw [rrw U (by omega) hx_2]; rfl)) rfl rfl ?_
  refine wl_op U rfl rfl (op_call U Tryz.f36 rfl rfl pf_36 (by kernel_rfl) (by kernel_rfl) ((s36 U n E _ hg _ _ (hv.sub U hs12)).mono U ?_))
  rintro cv H3 N3 hq
  obtain ⟨cs, hcs, hrd, hs3, hN3⟩ := hq
  have hx_4 := hs3 N _ hx_2
  have hs_5 := hs_3.trans hs3
  refine wl_own U fun hBN3 hlt3 => ?_
  obtain ⟨pc, capc, us, rfl, hpc, hru, hus⟩ := hrd.open U
  refine wr U ((rd_len' U sl_25 rfl).to (v' := (.int .i64 ((cs.length : Nat) : Int))) rfl) rfl rfl ?_
  refine wr U ((rm U).to (v' := (.int .i64 0)) rfl) rfl rfl ?_
  refine wz U ?_
  have hcl := comps_len hcs
  have hs13 := hs12.trans hs3
  have hcul := hus.1
  have hbx3 : H3 N = _ := hs3 _ _ (hs2 _ _ hx_1)
  repeat (first|refine nt ?_|refine nq ?_|refine wq U ?_)
  refine wc_block U ?_
  refine wc_loop U (fun m T H' N' => ∃ (i : Nat) (ov : Value) (oss : List (List Nat)), i ≤ cs.length ∧ m = cs.length - i ∧ Has T [(1, (.pointer (some ⟨N, 0, none⟩))), (2, ov), (13, (.slice pc cs.length capc)), (14, (.int .i64 ((cs.length : Nat) : Int))), (15, (.int .i64 ((i : Nat) : Int)))] ∧ Bests (adj E) (cs.take i) oss ∧ IsSl H' ov 3 1 (nats oss.flatten) ∧ (∀ c, blkOf ov = some c → N3 ≤ c) ∧ Sub H3 H' ∧ N3 ≤ N') cs.length ⟨0, .slice none 0 0, [], Nat.zero_le _, rfl, ⟨rfl, rfl, rfl, rfl, rfl, trivial⟩, .nil, .inl ⟨rfl, rfl⟩, (fun c hc => by cases hc), Sub.refl _, Nat.le_refl _⟩ ?_
  rintro m T H4 N4 ⟨i, ov, oss, hi, rfl, hT, hB, hov, hob, hs4, hN4⟩
  obtain ⟨J, rfl⟩ := hT.ex
  refine wc_own U fun hBN4 hlt4 => ?_
  have hfl : oss.flatten.length ≤ n := hB.lt (hcs.d.sublist (List.take_sublist _ _)) (hcs.apart.sublist (List.take_sublist _ _)) (fun c hc => hcs.lt c (List.mem_of_mem_take hc))
  repeat (first|refine nt ?_|refine nq ?_|refine wq U ?_)
  refine wg U ?_
  refine wr U (rd_lss U rfl rfl) rfl rfl ?_
  refine wz U ?_
  repeat (first|refine nt ?_|refine nq ?_|refine wq U ?_)
  refine wcd U (t := (decide (((i : Nat) : Int) < ((cs.length : Nat) : Int)))) rfl (fun hck => ?_) fun hck => ?_
  · replace hck := of_decide_eq_true hck
    refine wsk U ?_
    repeat (first|refine nt ?_|refine nq ?_)
    have hi1 : i < cs.length := by omega
    obtain ⟨cb, coff, rfl⟩ := hpc (by omega)
    obtain ⟨u, hu⟩ := get_ex (l := us) (i := i) (by omega)
    obtain ⟨c, hc0⟩ : ∃ c, cs[i] = c := ⟨_, rfl⟩
    have hci : cs[i]? = some c := by rw [List.getElem?_eq_getElem hi1, hc0]
    have hcm : c ∈ cs := List.mem_of_getElem? hci
    have hur := hus.2 i u c hu hci
    obtain ⟨pu, capu, rfl, hcu, hpu⟩ := hur.nums U
    have hclt := hcs.lt c hcm; have hcln := nodup_len n c ((hcs.c c hcm).1.imp Nat.ne_of_lt) hclt
    have hru4 := hru.sub U hs4
    have hur4 := hur.sub U hs4
    have hbx4 := hs4 _ _ hbx3
    repeat (first|refine nt ?_|refine nq ?_|refine wq U ?_)
    refine wc_block U ?_
    have hNB : U.B ≤ N := hBN
    repeat (first|refine nt ?_|refine nq ?_|refine wq U ?_)
    refine wg U ?_
    refine wr U (rd_idx1 U (j := i) sl_25 rfl rfl (by omega)) rfl rfl ?_
    refine wr U (rl1 U el_26 rfl (v := (.slice pu c.length capu)) (hru4.get U hu)) rfl rfl ?_
    refine wr U ((ra U).to (v' := (.slice pu c.length capu)) rfl) rfl rfl ?_
    refine wz U ?_
    repeat (first|refine nt ?_|refine nq ?_|refine wq U ?_)
    refine wg U ?_
    refine wr U ((rfa U fb_24_0 rfl).to (v' := (.pointer (some ⟨N, 0, none⟩))) rfl) rfl rfl ?_
    refine wr U (rl1 U el_3 rfl (v := (.int .i64 ((n : Nat) : Int))) (by rw [rrw U (by omega) hbx4]; rfl)) rfl rfl ?_
    refine wl_op U rfl rfl (op_makeSlice U (m := n) (v := .bool false) sl_67 rfl rfl rfl (by omega) (by omega) ?_)
    refine wr U ((ra U).to (v' := (.slice (some ⟨N4, 0, none⟩) n n)) rfl) rfl rfl ?_
    refine wz U ?_
    repeat (first|refine nt ?_|refine nq ?_)
    refine wc_gen U (fun R5 => R5 N4 = some (.row 4 0 (bools (keepC n (c.take 0))) n) ∧ Sub H4 R5) ⟨by rw [List.take_zero, keepC_nil, ← bools_rep]; exact hsy, (Sub.refl H4).hset (fresh hlt4 (by omega))⟩ ?_
    rintro H5 ⟨hk5, hs5⟩ hBN5 hlt5
    repeat (first|refine nt ?_|refine nq ?_|refine wq U ?_)
    refine wg U ?_
    refine wr U ((rm U).to (v' := (.slice pu c.length capu)) rfl) rfl rfl ?_
    refine wr U ((rd_len' U sl_26 rfl).to (v' := (.int .i64 ((c.length : Nat) : Int))) rfl) rfl rfl ?_
    refine wr U ((rm U).to (v' := (.int .i64 0)) rfl) rfl rfl ?_
    refine wz U ?_
    repeat (first|refine nt ?_|refine nq ?_|refine wq U ?_)
    refine wc_block U ?_
    refine wc_loop U (fun m T H' N' => ∃ (j : Nat), j ≤ c.length ∧ m = c.length - j ∧ Has T [(1, (.pointer (some ⟨N, 0, none⟩))), (2, ov), (5, (.slice pu c.length capu)), (6, (.slice (some ⟨N4, 0, none⟩) n n)), (13, (.slice (some ⟨cb, coff, none⟩) cs.length capc)), (14, (.int .i64 ((cs.length : Nat) : Int))), (15, (.int .i64 ((i : Nat) : Int))), (22, (.slice pu c.length capu)), (23, (.int .i64 ((c.length : Nat) : Int))), (24, (.int .i64 ((j : Nat) : Int)))] ∧ H' N4 = some (.row 4 0 (bools (keepC n (c.take j))) n) ∧ Sub H4 H' ∧ N4 + 1 = N') c.length ⟨0, Nat.zero_le _, rfl, ⟨rfl, rfl, rfl, rfl, rfl, rfl, rfl, rfl, rfl, rfl, trivial⟩, hk5, hs5, rfl⟩ ?_
    rintro m T H6 _ ⟨j, hj, rfl, hT, hk6, hs6, rfl⟩
    obtain ⟨J6, rfl⟩ := hT.ex
    repeat (first|refine nt ?_|refine nq ?_|refine wq U ?_)
    refine wg U ?_
    refine wr U (rd_lss U rfl rfl) rfl rfl ?_
    refine wz U ?_
    repeat (first|refine nt ?_|refine nq ?_|refine wq U ?_)
    refine wcd U (t := (decide (((j : Nat) : Int) < ((c.length : Nat) : Int)))) rfl (fun hcj => ?_) fun hcj => ?_
    · replace hcj := of_decide_eq_true hcj
      refine wsk U ?_
      repeat (first|refine nt ?_|refine nq ?_)
      have hj1 : j < c.length := by omega
      obtain ⟨ub, uoff, rfl⟩ := hpu (by omega)
      repeat (first|refine nt ?_|refine nq ?_|refine wq U ?_)
      refine wc_block U ?_
      have hcn : c[j] < n := hclt _ (List.getElem_mem hj1)
      repeat (first|refine nt ?_|refine nq ?_|refine wq U ?_)
      refine wg U ?_
      refine wr U (rd_idx1 U (j := j) sl_26 rfl rfl (by omega)) rfl rfl ?_
      refine wr U (rl1 U el_3 rfl (v := (.int .i64 ((c[j] : Nat) : Int))) ((hur4.sub U hs6).n0 U hj1)) rfl rfl ?_
      refine wr U ((ra U).to (v' := (.int .i64 ((c[j] : Nat) : Int))) rfl) rfl rfl ?_
      refine wz U ?_
      repeat (first|refine nt ?_|refine nq ?_|refine wq U ?_)
      refine wg U ?_
      refine wr U ((rm U).to (v' := (.slice (some ⟨N4, 0, none⟩) n n)) rfl) rfl rfl ?_
      refine wr U ((rm U).to (v' := (.int .i64 ((c[j] : Nat) : Int))) rfl) rfl rfl ?_
      refine wr U (rd_idx1 U (j := c[j]) sl_67 rfl rfl hcn) rfl rfl ?_
      refine wl_op0 U rfl (op_store1 U el_4 rfl rfl rfl rfl hk6 (by omega) (by rw [bools_length, keepC_length]; omega) ?_)
      refine wz U ?_
      repeat (first|refine nt ?_|refine nq ?_)
      repeat (first|refine nt ?_|refine nq ?_|refine wq U ?_)
      refine wg U ?_
      refine wr U (rd_add U rfl rfl (by omega) (by omega)) rfl rfl ?_
      refine wr U ((rm U).to (v' := (.int .i64 (((j : Nat) : Int) + 1))) rfl) rfl rfl ?_
      refine wz U ?_
      repeat (first|refine nt ?_|refine nq ?_)
      exact ⟨c.length - (j + 1), by omega, j + 1, by omega, rfl, ⟨rfl, rfl, rfl, rfl, rfl, rfl, rfl, rfl, rfl, rfl, trivial⟩, by rw [← keepC_set hj1 hcn, ← bools_set]; exact hsy, hs6.hset (fresh hlt4 (by omega)), rfl⟩
    · replace hcj := of_decide_eq_false hcj
      refine wc_exit U ?_
      repeat (first|refine xt ?_|refine xps (by decide) ?_)
      refine xbl ?_
      repeat (first|refine nt ?_|refine nq ?_)
      obtain rfl : c.length = j := by omega
      rw [List.take_length] at hk6
      refine wc_own U fun hBN6 hlt6 => ?_
      have hkr : RdS U H6 (.slice (some ⟨N4, 0, none⟩) n n) 1 (bools (keepC n c)) := row_rds U (by omega) hk6 (by rw [bools_length, keepC_length]) (Nat.le_refl _)
      have hs36 := hs4.trans hs6
      have hov6 := hov.sub hs6
      repeat (first|refine nt ?_|refine nq ?_|refine wq U ?_)
      refine wg U ?_
      refine wr U ((rm U).to (v' := ov) rfl) rfl rfl ?_
      refine wr U (rd_load2 U el_24 rfl (v0 := (.int .i64 ((n : Nat) : Int))) (v1 := (.slice p E.length cap))  (by rw [rrw U (by omega) (hs6 _ _ hbx4)]; rfl) (by rw [rrw U (by omega) (hs6 _ _ hbx4)]; rfl)) rfl rfl ?_
      refine wr U ((rm U).to (v' := (.slice (some ⟨N4, 0, none⟩) n n)) rfl) rfl rfl ?_
      refine wl_op U rfl rfl (op_call U Tryz.f37 rfl rfl pf_37 (by kernel_rfl) (by kernel_rfl) ((s37 U n E _ _ (keepC n c) hg _ _ (hv.sub U (hs13.trans hs36)) hkr).mono U ?_))
      rintro _ H7 N7 hq
      obtain ⟨gv, rfl, hgv, _, hs7, hN7⟩ := hq
      refine wr U ((rm U).to (v' := (.slice (some ⟨N4, 0, none⟩) n n)) rfl) rfl rfl ?_
      have hcl7 : ∀ u v, adj (onlyE E (keepC n c)) u v → (keepC n c).getD u false = (keepC n c).getD v false := fun u v h => by have := (adj_only.1 h).2; rw [this.1, this.2]
      refine wl_op U rfl rfl (op_call U Tryz.f43 rfl rfl pf_43 (by kernel_rfl) (by kernel_rfl) ((s43 U n _ (onlyE_ok hg _) hn40 gv _ (keepC n c) (keepC_length n c) hcl7 H7 N7 hgv (hkr.sub U hs7)).mono U ?_))
      rintro ev H8 N8 ⟨es, hes, heb, hEB, hs8, hN8⟩
      have hbst := Best.of_piece hclt hEB
      obtain ⟨x0, hx0⟩ : ∃ x, x ∈ c := by obtain ⟨_, r, hr, _⟩ := hcs.c c hcm; exact ⟨r, hr⟩
      have hep := hbst.pos hg hx0
      have hel : es.length ≤ n := hbst.lt (fun v hv => hclt v hv)
      refine wl_own U fun hBN8 hlt8 => ?_
      obtain ⟨pe, ke, cape, rfl, hek, hec, hep2⟩ := hes.form
      obtain rfl : ke = es.length := by rw [nats_length] at hek; omega
      obtain ⟨eb, eoff, rfl⟩ := hep2 hep
      have hov8 := (hov6.sub hs7).sub hs8
      have her := hes.rds U (fun b o h => (hlt8 b o h).1)
      refine wl_op U rfl rfl (op_appendF U (cs := nats oss.flatten) (ys := nats es) sl_26 rfl (by decide) rfl hov8 rfl (by rw [nats_length]; omega) (fun j u hu => her.get U hu) (nats_one _) hep (by rw [nats_length, nats_length]; omega) (by rw [nats_length, nats_length]; omega) ?_)
      intro wA HA NA hNA hslA hfrA hloA
      refine wr U ((ra U).to (v' := wA) rfl) rfl rfl ?_
      refine wz U ?_
      repeat (first|refine nt ?_|refine nq ?_)
      obtain ⟨cA, hcA1, hcA2, hcA3⟩ := hloA
      have hs38 := ((hs36.trans hs7).trans hs8)
      have hsA : Sub H3 HA := hs38.of fun c o hc => hfrA c (by have := (hlt3 c o hc).2; omega) (fun h => by have := hob c h; have := (hlt3 c o hc).2; omega)
      repeat (first|refine nt ?_|refine nq ?_|refine wq U ?_)
      refine wg U ?_
      refine wr U (rd_add U rfl rfl (by omega) (by omega)) rfl rfl ?_
      refine wr U ((rm U).to (v' := (.int .i64 (((i : Nat) : Int) + 1))) rfl) rfl rfl ?_
      refine wz U ?_
      repeat (first|refine nt ?_|refine nq ?_)
      refine ⟨cs.length - (i + 1), by omega, i + 1, wA, oss ++ [es], by omega, rfl, ⟨rfl, rfl, rfl, rfl, rfl, trivial⟩, ?_, ?_, ?_, hsA, by omega⟩
      · rw [List.take_succ_eq_append_getElem hi1, hc0]; exact hB.snoc hbst
      · rw [List.flatten_append, nats_append]; simpa using hslA
      · intro c hc; rw [hcA1] at hc; cases hc; rcases hcA3 with h | h; exact hob _ h; omega
  · replace hck := of_decide_eq_false hck
    refine wc_exit U ?_
    repeat (first|refine xt ?_|refine xps (by decide) ?_)
    refine xbl ?_
    repeat (first|refine nt ?_|refine nq ?_)
    rw [List.take_of_length_le (by omega)] at hB
    have hbst := hcs.best hB
    repeat (first|refine nt ?_|refine nq ?_|refine wq U ?_)
    refine wg U ?_
    refine wr U ((rm U).to (v' := ov) rfl) rfl rfl ?_
    refine wl_op U rfl rfl (op_call U Tryz.f22 rfl rfl pf_22 (by kernel_rfl) (by kernel_rfl) ((s22 U ov oss.flatten _ _ hov (by omega)).mono U ?_))
    rintro _ H5 N5 ⟨rfl, hN5, hsl5, hfr5⟩
    refine wz U ?_
    repeat (first|refine nt ?_|refine nq ?_|refine wq U ?_)
    refine wg U ?_
    refine wr U ((rm U).to (v' := ov) rfl) rfl rfl ?_
    refine wr U ((ra U).to (v' := ov) rfl) rfl rfl ?_
    refine wr U ((ra U).to (v' := (.int .i64 0)) rfl) rfl rfl ?_
    refine wz U ?_
    refine wc_own U fun hBN5 hlt5 => ?_
    refine wc_ret U ?_
    repeat (first|refine ret1 ?_|refine ret2 ?_)
    exact end2 U (.inl rfl) rfl (v := ov) (v' := (.int .i64 0)) rfl rfl ⟨ov, sortN oss.flatten, rfl, hsl5, (fun c hc => by have := hob c hc; omega), sortN_strict hbst.nd, hbst.perm (sortN_perm _), (hs13.trans hs4).of (fun c o hc => hfr5 c (fun h => by have := hob c h; have := (hlt c o hc).2; omega)), by omega⟩
end Go.Proofs.YtdmodppoellbkaaGreat
namespace Go.Proofs.YtdmodppoellbkaaGreat
open Go Go.RowKit
variable (U : Cx)
/-- The numbers of a piece's vertices, as a map. -/
def imF (p : List Nat) (k : Nat) : List (Int × Value) := (p.zipIdx k).map fun q => (((q.1 : Nat) : Int), .int .i64 ((q.2 : Nat) : Int))
theorem look_imF (u : Nat) : ∀ (p : List Nat) (k : Nat), look (imF p k) ((u : Nat) : Int) = if u ∈ p then some (.int .i64 ((k + p.idxOf u : Nat) : Int)) else none
  | [], k => by simp [imF, look]
  | x :: p, k => by
    by_cases h : u = x
    · subst h; simp [imF, look, List.zipIdx_cons]
    · have h' : ¬ ((u : Nat) : Int) = ((x : Nat) : Int) := by omega
      have ih := look_imF u p (k + 1)
      simp only [imF, List.zipIdx_cons, List.map_cons, look, if_neg h'] at ih ⊢
      rw [ih]
      simp only [List.mem_cons, h, false_or]
      split
      · have hx : (x == u) = false := by simp; exact fun e => h e.symm
        rw [List.idxOf_cons, hx]; simp only [cond_false, Option.some.injEq, Value.int.injEq, true_and]; omega
      · rfl
theorem look2_in {p : List Nat} {u : Nat} (h : u ∈ p) : Value.tuple #[(look (imF p 0) ((u : Nat) : Int)).getD (.int .i64 0), .bool (look (imF p 0) ((u : Nat) : Int)).isSome] = .tuple #[.int .i64 ((p.idxOf u : Nat) : Int), .bool true] := by
  rw [look_imF, if_pos h, Nat.zero_add]; rfl
theorem look2_out {p : List Nat} {u : Nat} (h : u ∉ p) : Value.tuple #[(look (imF p 0) ((u : Nat) : Int)).getD (.int .i64 0), .bool (look (imF p 0) ((u : Nat) : Int)).isSome] = .tuple #[.int .i64 0, .bool false] := by
  rw [look_imF, if_neg h]; rfl
theorem put_none' {m : List (Int × Value)} {k : Int} {v : Value} (h : look m k = none) : put m k v = m ++ [(k, v)] := by
  induction m with
  | nil => rfl
  | cons q m ih =>
    obtain ⟨k', u⟩ := q
    simp only [look, put] at h ⊢
    split at h
    · cases h
    · rename_i hk; rw [if_neg hk, ih h]; rfl
theorem put_imF {p : List Nat} (hn : p.Nodup) {j : Nat} (hj : j < p.length) : put (imF (p.take j) 0) ((p[j] : Nat) : Int) (.int .i64 ((j : Nat) : Int)) = imF (p.take (j + 1)) 0 := by
  have hno : p[j] ∉ p.take j := fun hm => by
    obtain ⟨i, hi, he⟩ := List.mem_iff_getElem.1 hm
    rw [List.length_take] at hi
    rw [List.getElem_take] at he
    have := (List.getElem_inj hn).1 he
    omega
  rw [put_none' (by rw [look_imF, if_neg hno]), List.take_succ_eq_append_getElem hj]
  simp only [imF, List.zipIdx_append, List.map_append, List.zipIdx_cons, List.zipIdx_nil, List.map_cons, List.map_nil, List.length_take, Nat.zero_add]
  rw [Nat.min_eq_left (by omega)]
theorem renE_succ (p : List Nat) (E : List NE) {q : Nat} (h : q < E.length) : renE p (E.take (q + 1)) = renE p (E.take q) ++ (if inC p E[q] = true then [(p.idxOf E[q].1, p.idxOf E[q].2.1, E[q].2.2)] else []) := by
  rw [List.take_succ_eq_append_getElem h, renE, List.filter_append, List.map_append]
  congr 1
  by_cases hi : inC p E[q] = true <;> simp [hi]
theorem renE_len (p : List Nat) (E : List NE) (q : Nat) : (renE p (E.take q)).length ≤ E.length := by
  rw [renE, List.length_map]; exact Nat.le_trans (List.length_filter_le _ _) (by rw [List.length_take]; omega)
theorem s11 (n k s : Nat) (E : List NE) (sv : Value) (hg : GOk n E) (hn40 : n ≤ 40) (hk1 : 1 ≤ k) (hk8 : k ≤ 8) (hsk : s ≤ k) (H : Hp) (N : Nat) (hv : RdS U H sv 3 (necs E)) : Spec U 11 #[(.agg #[(.int .i64 ((n : Nat) : Int)), sv]), (.int .i64 ((k : Nat) : Int)), (.int .i64 ((s : Nat) : Int))] H N (fun v H' N' => ∃ ov os, v = .tuple #[ov, .int .i64 0] ∧ RdS U H' ov 1 (nats os) ∧ os.Pairwise (· < ·) ∧ Best (adj E) (fun v => v < n ∧ (keptL n E k s).getD v false = true) os ∧ Sub H H' ∧ N ≤ N') := by
  obtain ⟨p0, cap, rfl, hc, hp⟩ := hv.edges U
  refine spa U pf_11 (m := 119) rfl rfl (by simp) fun hBN hlt => ?_
  obtain ⟨J, hJ⟩ := Has.ex (T := argsT #[(.agg #[(.int .i64 ((n : Nat) : Int)), (.slice p0 E.length cap)]), (.int .i64 ((k : Nat) : Int)), (.int .i64 ((s : Nat) : Int))]) (l := [(0, (.agg #[(.int .i64 ((n : Nat) : Int)), (.slice p0 E.length cap)])), (1, (.int .i64 ((k : Nat) : Int))), (2, (.int .i64 ((s : Nat) : Int)))]) ⟨rfl, rfl, rfl, trivial⟩
  rw [hJ]; clear hJ
  have hn := hg.hn; have hm := hg.hm
  repeat (first|refine nt ?_|refine nq ?_|refine wq U ?_)
  refine wg U ?_
  refine wl_op U rfl rfl (op_box U rfl rfl ?_)
  refine wr U ((ra U).to (v' := (.slice none 0 0)) rfl) rfl rfl ?_
  refine wr U ((ra U).to (v' := (.int .i64 0)) rfl) rfl rfl ?_
  refine wz U ?_
  repeat (first|refine nt ?_|refine nq ?_)
  refine wc_gen U (fun R => R N = some (.row 24 0 [(.int .i64 ((n : Nat) : Int)), (.slice p0 E.length cap)] 2) ∧ Sub _ R) ⟨(by first|(rw [hsy]; done) | (rw [hsy]; rfl)), ((Sub.refl _).hset (fresh hlt (by omega)))⟩ ?_
  rintro H1 ⟨hx_1, hs1⟩ hBNH1 hltH1
  repeat (first|refine nt ?_|refine nq ?_|refine wq U ?_)
  refine wg U ?_
  refine wr U (rd_load2 U el_24 rfl (v0 := (.int .i64 ((n : Nat) : Int))) (v1 := (.slice p0 E.length cap))  (by rw [rrw U (by omega) hx_1]; rfl) (by rw [rrw U (by omega) hx_1]; rfl)) rfl rfl ?_
  refine wr U ((rm U).to (v' := (.int .i64 ((k : Nat) : Int))) rfl) rfl rfl ?_
  refine wr U ((rm U).to (v' := (.int .i64 ((s : Nat) : Int))) rfl) rfl rfl ?_
  refine wl_op U rfl rfl (op_call U Tryz.f19 rfl rfl pf_19 (by kernel_rfl) (by kernel_rfl) ((s19 U n k s E _ hg hk1 hk8 hsk _ _ (hv.sub U hs1)).mono U ?_))
  rintro _ H3 N3 hq
  obtain ⟨pv, cs, rfl, hcs, hrd, hs2, hN2⟩ := hq
  have hx_2 := hs2 N _ hx_1
  have hs_3 := (Sub.refl _).trans hs2
  refine wl_own U fun hBN3 hlt3 => ?_
  obtain ⟨pcs, hpcs⟩ : ∃ l, cs.filter (keptC (keptL n E k s)) = l := ⟨_, rfl⟩
  rw [hpcs] at hrd
  obtain ⟨pc, capc, us, rfl, hpc, hru, hus⟩ := hrd.open U
  refine wr U ((rm U).to (v' := (.tuple #[(.slice pc pcs.length capc), (.int .i64 0)])) rfl) rfl rfl ?_
  refine wr U ((rd_extract U rfl rfl).to (v' := (.slice pc pcs.length capc)) rfl) rfl rfl ?_
  refine wr U ((rd_extract U rfl rfl).to (v' := (.int .i64 0)) rfl) rfl rfl ?_
  refine wr U ((ra U).to (v' := (.slice pc pcs.length capc)) rfl) rfl rfl ?_
  refine wr U ((ra U).to (v' := (.int .i64 0)) rfl) rfl rfl ?_
  refine wz U ?_
  repeat (first|refine nt ?_|refine nq ?_|refine wq U ?_)
  refine wg U ?_
  refine wr U ((rm U).to (v' := (.int .i64 0)) rfl) rfl rfl ?_
  refine wr U ((rd_neq U rfl rfl).to (v' := (.bool false)) rfl) rfl rfl ?_
  refine wz U ?_
  repeat (first|refine nt ?_|refine nq ?_|refine wq U ?_)
  refine wcd U (t := false) rfl (fun h => nomatch h) fun _ => ?_
  refine wsk U ?_
  repeat (first|refine nt ?_|refine nq ?_)
  have hcul := hus.1; have hs13 := hs1.trans hs2
  have hbx3 : H3 N = _ := hs2 _ _ hx_1
  have hpm : ∀ c ∈ pcs, c ∈ cs := fun c hc => by rw [← hpcs] at hc; exact (List.mem_filter.1 hc).1
  have hpl : pcs.length ≤ n := by rw [← hpcs]; exact Nat.le_trans (List.length_filter_le _ _) (comps_len hcs)
  repeat (first|refine nt ?_|refine nq ?_|refine wq U ?_)
  refine wg U ?_
  refine wr U ((rm U).to (v' := (.slice pc pcs.length capc)) rfl) rfl rfl ?_
  refine wr U ((rd_len' U sl_25 rfl).to (v' := (.int .i64 ((pcs.length : Nat) : Int))) rfl) rfl rfl ?_
  refine wr U ((rm U).to (v' := (.int .i64 0)) rfl) rfl rfl ?_
  refine wz U ?_
  repeat (first|refine nt ?_|refine nq ?_|refine wq U ?_)
  refine wc_block U ?_
  refine wc_loop U (fun m T H' N' => ∃ (i : Nat) (ov : Value) (oss : List (List Nat)), i ≤ pcs.length ∧ m = pcs.length - i ∧ Has T [(3, (.pointer (some ⟨N, 0, none⟩))), (6, ov), (37, (.slice pc pcs.length capc)), (38, (.int .i64 ((pcs.length : Nat) : Int))), (39, (.int .i64 ((i : Nat) : Int)))] ∧ Bests (adj E) (pcs.take i) oss ∧ IsSl H' ov 3 1 (nats oss.flatten) ∧ (∀ c, blkOf ov = some c → N3 ≤ c) ∧ Sub H3 H' ∧ N3 ≤ N') pcs.length ⟨0, .slice none 0 0, [], Nat.zero_le _, rfl, ⟨rfl, rfl, rfl, rfl, rfl, trivial⟩, .nil, .inl ⟨rfl, rfl⟩, (fun c hc => by cases hc), Sub.refl _, Nat.le_refl _⟩ ?_
  rintro m T H4 N4 ⟨i, ov, oss, hi, rfl, hT, hB, hov, hob, hs4, hN4⟩
  obtain ⟨J, rfl⟩ := hT.ex
  refine wc_own U fun hBN4 hlt4 => ?_
  have hd1 : pcs.Pairwise fun c d => ∀ x ∈ c, x ∉ d := by rw [← hpcs]; exact hcs.d.filter _
  have hkk : ∀ c ∈ pcs, ∀ v ∈ c, (keptL n E k s).getD v false = true := fun c hc => (keptC_all hcs (hpm c hc)).1 (by rw [← hpcs] at hc; exact (List.mem_filter.1 hc).2)
  have hd2 : pcs.Pairwise fun c d => ∀ u ∈ c, ∀ v ∈ d, ¬ adj E u v := by
    have h0 : pcs.Pairwise fun c d => ∀ u ∈ c, ∀ v ∈ d, ¬ adj (onlyE E (keptL n E k s)) u v := by rw [← hpcs]; exact hcs.apart.filter _
    refine h0.imp_of_mem ?_
    intro c d hc hd h u hu v hv ha
    exact h u hu v hv (adj_only.2 ⟨ha, hkk c hc u hu, hkk d hd v hv⟩)
  have hfl : oss.flatten.length ≤ n := hB.lt (hd1.sublist (List.take_sublist _ _)) (hd2.sublist (List.take_sublist _ _)) (fun c hc => hcs.lt c (hpm c (List.mem_of_mem_take hc)))
  repeat (first|refine nt ?_|refine nq ?_|refine wq U ?_)
  refine wg U ?_
  refine wr U (rd_lss U rfl rfl) rfl rfl ?_
  refine wz U ?_
  repeat (first|refine nt ?_|refine nq ?_|refine wq U ?_)
  refine wcd U (t := (decide (((i : Nat) : Int) < ((pcs.length : Nat) : Int)))) rfl (fun hck => ?_) fun hck => ?_
  · replace hck := of_decide_eq_true hck
    refine wsk U ?_
    repeat (first|refine nt ?_|refine nq ?_)
    have hi1 : i < pcs.length := by omega
    obtain ⟨cb, coff, rfl⟩ := hpc (by omega)
    obtain ⟨u, hu⟩ := get_ex (l := us) (i := i) (by omega)
    obtain ⟨p, hc0⟩ : ∃ c, pcs[i] = c := ⟨_, rfl⟩
    have hci : pcs[i]? = some p := by rw [List.getElem?_eq_getElem hi1, hc0]
    have hcm : p ∈ pcs := List.mem_of_getElem? hci
    have hur := hus.2 i u p hu hci
    obtain ⟨pu, capu, rfl, hcu, hpu⟩ := hur.nums U
    have hclt := hcs.lt p (hpm p hcm)
    have hpsrt := (hcs.c p (hpm p hcm)).1
    have hpnd : p.Nodup := hpsrt.imp Nat.ne_of_lt
    have hcln := nodup_len n p hpnd hclt
    have hru4 := hru.sub U hs4
    have hur4 := hur.sub U hs4
    have hbx4 := hs4 _ _ hbx3
    have hv4 := hv.sub U (hs13.trans hs4)
    have hNB : U.B ≤ N := hBN
    repeat (first|refine nt ?_|refine nq ?_|refine wq U ?_)
    refine wc_block U ?_
    repeat (first|refine nt ?_|refine nq ?_|refine wq U ?_)
    refine wg U ?_
    refine wr U (rd_idx1 U (j := i) sl_25 rfl rfl (by omega)) rfl rfl ?_
    refine wr U (rl1 U el_26 rfl (v := (.slice pu p.length capu)) (hru4.get U hu)) rfl rfl ?_
    refine wr U ((ra U).to (v' := (.slice pu p.length capu)) rfl) rfl rfl ?_
    refine wz U ?_
    repeat (first|refine nt ?_|refine nq ?_|refine wq U ?_)
    refine wg U ?_
    refine wl_op U rfl rfl (op_makeMap U ?_)
    refine wr U ((ra U).to (v' := (.map (some N4))) rfl) rfl rfl ?_
    refine wz U ?_
    repeat (first|refine nt ?_|refine nq ?_)
    refine wc_gen U (fun R5 => R5 N4 = some (.map (encM encI (imF (p.take 0) 0))) ∧ Sub H4 R5) ⟨hsy, (Sub.refl H4).hset (fresh hlt4 (by omega))⟩ ?_
    rintro H5 ⟨hk5, hs5⟩ hBN5 hlt5
    repeat (first|refine nt ?_|refine nq ?_|refine wq U ?_)
    refine wg U ?_
    refine wr U ((rm U).to (v' := (.slice pu p.length capu)) rfl) rfl rfl ?_
    refine wr U ((rd_len' U sl_26 rfl).to (v' := (.int .i64 ((p.length : Nat) : Int))) rfl) rfl rfl ?_
    refine wr U ((rm U).to (v' := (.int .i64 0)) rfl) rfl rfl ?_
    refine wz U ?_
    repeat (first|refine nt ?_|refine nq ?_|refine wq U ?_)
    refine wc_block U ?_
    refine wc_loop U (fun m T H' N' => ∃ (j : Nat), j ≤ p.length ∧ m = p.length - j ∧ Has T [(3, (.pointer (some ⟨N, 0, none⟩))), (6, ov), (10, (.slice pu p.length capu)), (11, (.map (some N4))), (37, (.slice (some ⟨cb, coff, none⟩) pcs.length capc)), (38, (.int .i64 ((pcs.length : Nat) : Int))), (39, (.int .i64 ((i : Nat) : Int))), (44, (.slice pu p.length capu)), (45, (.int .i64 ((p.length : Nat) : Int))), (46, (.int .i64 ((j : Nat) : Int)))] ∧ H' N4 = some (.map (encM encI (imF (p.take j) 0))) ∧ Sub H4 H' ∧ N4 + 1 = N') p.length ⟨0, Nat.zero_le _, rfl, ⟨rfl, rfl, rfl, rfl, rfl, rfl, rfl, rfl, rfl, rfl, trivial⟩, hk5, hs5, rfl⟩ ?_
    clear hk5 hs5
    rintro m T H6 _ ⟨j, hj, rfl, hT, hk6, hs6, rfl⟩
    obtain ⟨J6, rfl⟩ := hT.ex
    repeat (first|refine nt ?_|refine nq ?_|refine wq U ?_)
    refine wg U ?_
    refine wr U (rd_lss U rfl rfl) rfl rfl ?_
    refine wz U ?_
    repeat (first|refine nt ?_|refine nq ?_|refine wq U ?_)
    refine wcd U (t := (decide (((j : Nat) : Int) < ((p.length : Nat) : Int)))) rfl (fun hcj => ?_) fun hcj => ?_
    · replace hcj := of_decide_eq_true hcj
      refine wsk U ?_
      repeat (first|refine nt ?_|refine nq ?_)
      have hj1 : j < p.length := by omega
      obtain ⟨ub, uoff, rfl⟩ := hpu (by omega)
      repeat (first|refine nt ?_|refine nq ?_|refine wq U ?_)
      refine wc_block U ?_
      repeat (first|refine nt ?_|refine nq ?_|refine wq U ?_)
      refine wg U ?_
      refine wr U ((rm U).to (v' := (.int .i64 ((j : Nat) : Int))) rfl) rfl rfl ?_
      refine wr U (rd_idx1 U (j := j) sl_26 rfl rfl (by omega)) rfl rfl ?_
      refine wr U (rl1 U el_3 rfl (v := (.int .i64 ((p[j] : Nat) : Int))) ((hur4.sub U hs6).n0 U hj1)) rfl rfl ?_
      refine wr U ((ra U).to (v' := (.int .i64 ((j : Nat) : Int))) rfl) rfl rfl ?_
      refine wr U ((ra U).to (v' := (.int .i64 ((p[j] : Nat) : Int))) rfl) rfl rfl ?_
      refine wz U ?_
      repeat (first|refine nt ?_|refine nq ?_|refine wq U ?_)
      refine wg U ?_
      refine wr U ((rm U).to (v' := (.map (some N4))) rfl) rfl rfl ?_
      refine wr U ((rm U).to (v' := (.int .i64 ((p[j] : Nat) : Int))) rfl) rfl rfl ?_
      refine wr U ((rm U).to (v' := (.int .i64 ((j : Nat) : Int))) rfl) rfl rfl ?_
      refine wl_op0 U rfl (op_mapUpdate U (v := (.int .i64 ((j : Nat) : Int))) (k := ((p[j] : Nat) : Int)) (m := imF (p.take j) 0) um_46 key_int rfl rfl rfl hk6 ?_)
      refine wz U ?_
      repeat (first|refine nt ?_|refine nq ?_)
      rw [put_imF hpnd hj1]
      repeat (first|refine nt ?_|refine nq ?_|refine wq U ?_)
      refine wg U ?_
      refine wr U (rd_add U rfl rfl (by omega) (by omega)) rfl rfl ?_
      refine wr U ((rm U).to (v' := (.int .i64 (((j : Nat) : Int) + 1))) rfl) rfl rfl ?_
      refine wz U ?_
      repeat (first|refine nt ?_|refine nq ?_)
      exact ⟨p.length - (j + 1), by omega, j + 1, by omega, rfl, ⟨rfl, rfl, rfl, rfl, rfl, rfl, rfl, rfl, rfl, rfl, trivial⟩, hsy, hs6.hset (fresh hlt4 (by omega)), rfl⟩
    · replace hcj := of_decide_eq_false hcj
      refine wc_exit U ?_
      repeat (first|refine xt ?_|refine xps (by decide) ?_)
      refine xbl ?_
      repeat (first|refine nt ?_|refine nq ?_)
      obtain rfl : p.length = j := by omega
      rw [List.take_length] at hk6
      repeat (first|refine nt ?_|refine nq ?_|refine wq U ?_)
      refine wg U ?_
      refine wr U ((ra U).to (v' := (.slice none 0 0)) rfl) rfl rfl ?_
      refine wz U ?_
      repeat (first|refine nt ?_|refine nq ?_|refine wq U ?_)
      refine wg U ?_
      refine wr U ((rfa U fb_24_1 rfl).to (v' := (.pointer (some ⟨N, 1, none⟩))) rfl) rfl rfl ?_
      refine wr U (rl1 U el_22 rfl (v := (.slice p0 E.length cap)) (by rw [rrw U (by omega) (hs6 _ _ hbx4)]; rfl)) rfl rfl ?_
      refine wr U ((rd_len' U sl_22 rfl).to (v' := (.int .i64 ((E.length : Nat) : Int))) rfl) rfl rfl ?_
      refine wr U ((rm U).to (v' := (.int .i64 0)) rfl) rfl rfl ?_
      refine wz U ?_
      repeat (first|refine nt ?_|refine nq ?_|refine wq U ?_)
      refine wc_block U ?_
      refine wc_loop U (fun m T H' N' => ∃ (q : Nat) (lv : Value), q ≤ E.length ∧ m = E.length - q ∧ Has T [(3, (.pointer (some ⟨N, 0, none⟩))), (6, ov), (10, (.slice pu p.length capu)), (11, (.map (some N4))), (37, (.slice (some ⟨cb, coff, none⟩) pcs.length capc)), (38, (.int .i64 ((pcs.length : Nat) : Int))), (39, (.int .i64 ((i : Nat) : Int))), (14, lv), (56, (.slice p0 E.length cap)), (57, (.int .i64 ((E.length : Nat) : Int))), (58, (.int .i64 ((q : Nat) : Int)))] ∧ H' N4 = some (.map (encM encI (imF p 0))) ∧ IsSl H' lv 43 3 (necs (renE p (E.take q))) ∧ (∀ c, blkOf lv = some c → N4 + 1 ≤ c) ∧ Sub H4 H' ∧ N4 + 1 ≤ N') E.length ⟨0, .slice none 0 0, Nat.zero_le _, rfl, ⟨rfl, rfl, rfl, rfl, rfl, rfl, rfl, rfl, rfl, rfl, rfl, trivial⟩, hk6, .inl ⟨rfl, rfl⟩, (fun c hc => by cases hc), hs6, Nat.le_refl _⟩ ?_
      clear hk6 hs6
      rintro m T H6 N6 ⟨q, lv, hq, rfl, hT, hk6, hlv, hlb, hs6, hN6⟩
      obtain ⟨J7, rfl⟩ := hT.ex
      refine wc_own U fun hBN6 hlt6 => ?_
      have hrl := renE_len p E q
      repeat (first|refine nt ?_|refine nq ?_|refine wq U ?_)
      refine wg U ?_
      refine wr U (rd_lss U rfl rfl) rfl rfl ?_
      refine wz U ?_
      repeat (first|refine nt ?_|refine nq ?_|refine wq U ?_)
      refine wcd U (t := (decide (((q : Nat) : Int) < ((E.length : Nat) : Int)))) rfl (fun hcq => ?_) fun hcq => ?_
      · replace hcq := of_decide_eq_true hcq
        refine wsk U ?_
        repeat (first|refine nt ?_|refine nq ?_)
        have hq1 : q < E.length := by omega
        obtain ⟨eb, eoff, rfl⟩ := hp (by omega)
        repeat (first|refine nt ?_|refine nq ?_|refine wq U ?_)
        refine wc_block U ?_
        have hv6 := hv4.sub U hs6
        repeat (first|refine nt ?_|refine nq ?_|refine wq U ?_)
        refine wg U ?_
        refine wr U (rd_idxN U (j := q) sl_22 rfl rfl (by omega)) rfl rfl ?_
        refine wr U (rd_load3 U el_43 rfl (v0 := (.int .i64 ((E[q].1 : Nat) : Int))) (v1 := (.int .i64 ((E[q].2.1 : Nat) : Int))) (v2 := (.int .i64 (E[q].2.2)))  (hv6.e0 U hq1) (hv6.e1 U hq1) (hv6.e2 U hq1)) rfl rfl ?_
        refine wl_op U rfl rfl (op_alloc U z_43 rfl ?_)
        refine wl_op0 U rfl (op_store U (vs := [(.int .i64 ((E[q].1 : Nat) : Int)), (.int .i64 ((E[q].2.1 : Nat) : Int)), (.int .i64 (E[q].2.2))]) (cs := [(.int .i64 0), (.int .i64 0), (.int .i64 0)]) el_43 rfl rfl rfl rfl (one3 rfl rfl rfl) (by first|(rw [hsy]; done) | (rw [hsy]; rfl)) (by omega) (by simp) ?_)
        refine wz U ?_
        repeat (first|refine nt ?_|refine nq ?_)
        refine wc_gen U (fun R => R N6 = some (.row 43 0 [(.int .i64 ((E[q].1 : Nat) : Int)), (.int .i64 ((E[q].2.1 : Nat) : Int)), (.int .i64 (E[q].2.2))] 3) ∧ Sub _ R) ⟨(by first|(rw [hsy]; done) | (rw [hsy]; rfl)), (((Sub.refl _).hset (fresh hlt6 (by omega))).hset (fresh hlt6 (by omega)))⟩ ?_
        rintro H7 ⟨hx_4, hs7⟩ hBNH7 hltH7
        have hk7 := hs7 _ _ hk6; have hlv7 := hlv.sub hs7
        have hrs := renE_succ p E hq1
        by_cases h1 : E[q].1 ∈ p
        · by_cases h2 : E[q].2.1 ∈ p
          · skip
            repeat (first|refine nt ?_|refine nq ?_|refine wq U ?_)
            refine wg U ?_
            refine wr U ((rm U).to (v' := (.map (some N4))) rfl) rfl rfl ?_
            refine wr U ((rfa U fb_43_0 rfl).to (v' := (.pointer (some ⟨N6, 0, none⟩))) rfl) rfl rfl ?_
            refine wr U (rl1 U el_3 rfl (v := (.int .i64 ((E[q].1 : Nat) : Int))) (by rw [rrw U (by omega) hx_4]; rfl)) rfl rfl ?_
            refine wr U ((rd_lookup2 U um_46 key_int z_3 rfl (k := ((E[q].1 : Nat) : Int)) rfl (m := imF p 0) (.inl hk7)).to (v' := (.tuple #[(.int .i64 ((p.idxOf E[q].1 : Nat) : Int)), (.bool true)])) (look2_in h1)) rfl rfl ?_
            refine wr U ((rm U).to (v' := (.tuple #[(.int .i64 ((p.idxOf E[q].1 : Nat) : Int)), (.bool true)])) rfl) rfl rfl ?_
            refine wr U ((rd_extract U rfl rfl).to (v' := (.int .i64 ((p.idxOf E[q].1 : Nat) : Int))) rfl) rfl rfl ?_
            refine wr U ((rd_extract U rfl rfl).to (v' := (.bool true)) rfl) rfl rfl ?_
            refine wr U ((ra U).to (v' := (.int .i64 ((p.idxOf E[q].1 : Nat) : Int))) rfl) rfl rfl ?_
            refine wr U ((ra U).to (v' := (.bool true)) rfl) rfl rfl ?_
            refine wz U ?_
            repeat (first|refine nt ?_|refine nq ?_|refine wq U ?_)
            refine wg U ?_
            refine wr U ((rm U).to (v' := (.map (some N4))) rfl) rfl rfl ?_
            refine wr U ((rfa U fb_43_1 rfl).to (v' := (.pointer (some ⟨N6, 1, none⟩))) rfl) rfl rfl ?_
            refine wr U (rl1 U el_3 rfl (v := (.int .i64 ((E[q].2.1 : Nat) : Int))) (by rw [rrw U (by omega) hx_4]; rfl)) rfl rfl ?_
            refine wr U ((rd_lookup2 U um_46 key_int z_3 rfl (k := ((E[q].2.1 : Nat) : Int)) rfl (m := imF p 0) (.inl hk7)).to (v' := (.tuple #[(.int .i64 ((p.idxOf E[q].2.1 : Nat) : Int)), (.bool true)])) (look2_in h2)) rfl rfl ?_
            refine wr U ((rm U).to (v' := (.tuple #[(.int .i64 ((p.idxOf E[q].2.1 : Nat) : Int)), (.bool true)])) rfl) rfl rfl ?_
            refine wr U ((rd_extract U rfl rfl).to (v' := (.int .i64 ((p.idxOf E[q].2.1 : Nat) : Int))) rfl) rfl rfl ?_
            refine wr U ((rd_extract U rfl rfl).to (v' := (.bool true)) rfl) rfl rfl ?_
            refine wr U ((ra U).to (v' := (.int .i64 ((p.idxOf E[q].2.1 : Nat) : Int))) rfl) rfl rfl ?_
            refine wr U ((ra U).to (v' := (.bool true)) rfl) rfl rfl ?_
            refine wz U ?_
            repeat (first|refine nt ?_|refine nq ?_|refine wq U ?_)
            refine wg U ?_
            refine wr U ((rm U).to (v' := (.bool true)) rfl) rfl rfl ?_
            refine wr U ((rm U).to (v' := (.bool true)) rfl) rfl rfl ?_
            refine wr U ((rm U).to (v' := (.bool true)) rfl) rfl rfl ?_
            refine wr U ((rd_pick U rfl).to (v' := (.bool true)) rfl) rfl rfl ?_
            refine wz U ?_
            repeat (first|refine nt ?_|refine nq ?_|refine wq U ?_)
            refine wcd U (t := true) rfl (fun _ => ?_) (fun h => nomatch h)
            have hin : inC p E[q] = true := by simp [inC, h1, h2]
            rw [if_pos hin] at hrs
            repeat (first|refine nt ?_|refine nq ?_|refine wq U ?_)
            refine wg U ?_
            refine wr U ((rm U).to (v' := lv) rfl) rfl rfl ?_
            refine wr U ((rm U).to (v' := (.int .i64 ((p.idxOf E[q].1 : Nat) : Int))) rfl) rfl rfl ?_
            refine wr U ((rm U).to (v' := (.int .i64 ((p.idxOf E[q].2.1 : Nat) : Int))) rfl) rfl rfl ?_
            refine wr U ((rfa U fb_43_2 rfl).to (v' := (.pointer (some ⟨N6, 2, none⟩))) rfl) rfl rfl ?_
            refine wr U (rl1 U el_2 rfl (v := (.int .i64 (E[q].2.2))) (by rw [rrw U (by omega) hx_4]; rfl)) rfl rfl ?_
            refine wr U (rd_build U (cells := #[(.int .i64 ((p.idxOf E[q].1 : Nat) : Int)), (.int .i64 ((p.idxOf E[q].2.1 : Nat) : Int)), (.int .i64 (E[q].2.2))]) (by unfold P; kernel_rfl)) rfl rfl ?_
            refine wl_op U rfl rfl (op_bs U sl_22 rfl (by decide) (by decide) [(.agg #[(.int .i64 ((p.idxOf E[q].1 : Nat) : Int)), (.int .i64 ((p.idxOf E[q].2.1 : Nat) : Int)), (.int .i64 (E[q].2.2))])] rfl (by simp [Value.cells]) rfl (cs := [(.int .i64 ((p.idxOf E[q].1 : Nat) : Int)), (.int .i64 ((p.idxOf E[q].2.1 : Nat) : Int)), (.int .i64 (E[q].2.2))]) rfl ?_)
            refine wl_op U rfl rfl (op_append1 U (H0 := _) (cs := necs (renE p (E.take q))) (ys := [(.int .i64 ((p.idxOf E[q].1 : Nat) : Int)), (.int .i64 ((p.idxOf E[q].2.1 : Nat) : Int)), (.int .i64 (E[q].2.2))]) sl_22 rfl (by decide) rfl hlv7 (fun hc => by have := (hlv.lt hlt6 hc).2; omega) rfl rfl rfl (by omega) (one3 rfl rfl rfl) (by rw [necs_length]; omega) (by rw [necs_length]; omega) ?_)
            intro wA HA NA hNA hslA hfrA hloA
            refine wr U ((ra U).to (v' := wA) rfl) rfl rfl ?_
            refine wz U ?_
            repeat (first|refine nt ?_|refine nq ?_)
            obtain ⟨cA, hcA1, hcA2, hcA3⟩ := hloA
            have hlbn : ∀ c, c < N4 + 1 → blkOf lv ≠ some c := fun c hc h => by have := hlb c h; omega
            have hA : ∀ c, c < N4 + 1 → HA c = H7 c := fun c hc => (hfrA c (by omega) (hlbn c hc)).trans (hsn (by omega))
            repeat (first|refine nt ?_|refine nq ?_|refine wq U ?_)
            refine wg U ?_
            refine wr U (rd_add U rfl rfl (by omega) (by omega)) rfl rfl ?_
            refine wr U ((rm U).to (v' := (.int .i64 (((q : Nat) : Int) + 1))) rfl) rfl rfl ?_
            refine wz U ?_
            repeat (first|refine nt ?_|refine nq ?_)
            exact ⟨E.length - (q + 1), by omega, q + 1, wA, by omega, rfl, ⟨rfl, rfl, rfl, rfl, rfl, rfl, rfl, rfl, rfl, rfl, rfl, trivial⟩, (hA _ (by omega)).trans hk7, by rw [hrs, necs_append]; exact hslA, (fun c hc => by rw [hcA1] at hc; cases hc; rcases hcA3 with h | h; exact hlb _ h; omega), (hs6.trans hs7).of fun c o hc => hA c (by have := (hlt4 c o hc).2; omega), by omega⟩
          · skip
            repeat (first|refine nt ?_|refine nq ?_|refine wq U ?_)
            refine wg U ?_
            refine wr U ((rm U).to (v' := (.map (some N4))) rfl) rfl rfl ?_
            refine wr U ((rfa U fb_43_0 rfl).to (v' := (.pointer (some ⟨N6, 0, none⟩))) rfl) rfl rfl ?_
            refine wr U (rl1 U el_3 rfl (v := (.int .i64 ((E[q].1 : Nat) : Int))) (by rw [rrw U (by omega) hx_4]; rfl)) rfl rfl ?_
            refine wr U ((rd_lookup2 U um_46 key_int z_3 rfl (k := ((E[q].1 : Nat) : Int)) rfl (m := imF p 0) (.inl hk7)).to (v' := (.tuple #[(.int .i64 ((p.idxOf E[q].1 : Nat) : Int)), (.bool true)])) (look2_in h1)) rfl rfl ?_
            refine wr U ((rm U).to (v' := (.tuple #[(.int .i64 ((p.idxOf E[q].1 : Nat) : Int)), (.bool true)])) rfl) rfl rfl ?_
            refine wr U ((rd_extract U rfl rfl).to (v' := (.int .i64 ((p.idxOf E[q].1 : Nat) : Int))) rfl) rfl rfl ?_
            refine wr U ((rd_extract U rfl rfl).to (v' := (.bool true)) rfl) rfl rfl ?_
            refine wr U ((ra U).to (v' := (.int .i64 ((p.idxOf E[q].1 : Nat) : Int))) rfl) rfl rfl ?_
            refine wr U ((ra U).to (v' := (.bool true)) rfl) rfl rfl ?_
            refine wz U ?_
            repeat (first|refine nt ?_|refine nq ?_|refine wq U ?_)
            refine wg U ?_
            refine wr U ((rm U).to (v' := (.map (some N4))) rfl) rfl rfl ?_
            refine wr U ((rfa U fb_43_1 rfl).to (v' := (.pointer (some ⟨N6, 1, none⟩))) rfl) rfl rfl ?_
            refine wr U (rl1 U el_3 rfl (v := (.int .i64 ((E[q].2.1 : Nat) : Int))) (by rw [rrw U (by omega) hx_4]; rfl)) rfl rfl ?_
            refine wr U ((rd_lookup2 U um_46 key_int z_3 rfl (k := ((E[q].2.1 : Nat) : Int)) rfl (m := imF p 0) (.inl hk7)).to (v' := (.tuple #[(.int .i64 0), (.bool false)])) (look2_out h2)) rfl rfl ?_
            refine wr U ((rm U).to (v' := (.tuple #[(.int .i64 0), (.bool false)])) rfl) rfl rfl ?_
            refine wr U ((rd_extract U rfl rfl).to (v' := (.int .i64 0)) rfl) rfl rfl ?_
            refine wr U ((rd_extract U rfl rfl).to (v' := (.bool false)) rfl) rfl rfl ?_
            refine wr U ((ra U).to (v' := (.int .i64 0)) rfl) rfl rfl ?_
            refine wr U ((ra U).to (v' := (.bool false)) rfl) rfl rfl ?_
            refine wz U ?_
            repeat (first|refine nt ?_|refine nq ?_|refine wq U ?_)
            refine wg U ?_
            refine wr U ((rm U).to (v' := (.bool true)) rfl) rfl rfl ?_
            refine wr U ((rm U).to (v' := (.bool true)) rfl) rfl rfl ?_
            refine wr U ((rm U).to (v' := (.bool false)) rfl) rfl rfl ?_
            refine wr U ((rd_pick U rfl).to (v' := (.bool false)) rfl) rfl rfl ?_
            refine wz U ?_
            repeat (first|refine nt ?_|refine nq ?_|refine wq U ?_)
            refine wcd U (t := false) rfl (fun h => nomatch h) fun _ => ?_
            have hin : ¬ inC p E[q] = true := by simp [inC]; intro h3 h4; first|exact h2 h4 | exact h1 h3
            rw [if_neg hin, List.append_nil] at hrs
            refine wsk U ?_
            repeat (first|refine nt ?_|refine nq ?_)
            repeat (first|refine nt ?_|refine nq ?_|refine wq U ?_)
            refine wg U ?_
            refine wr U (rd_add U rfl rfl (by omega) (by omega)) rfl rfl ?_
            refine wr U ((rm U).to (v' := (.int .i64 (((q : Nat) : Int) + 1))) rfl) rfl rfl ?_
            refine wz U ?_
            repeat (first|refine nt ?_|refine nq ?_)
            exact ⟨E.length - (q + 1), by omega, q + 1, lv, by omega, rfl, ⟨rfl, rfl, rfl, rfl, rfl, rfl, rfl, rfl, rfl, rfl, rfl, trivial⟩, hk7, by rw [hrs]; exact hlv7, hlb, hs6.trans hs7, by omega⟩
        · by_cases h2 : E[q].2.1 ∈ p
          · skip
            repeat (first|refine nt ?_|refine nq ?_|refine wq U ?_)
            refine wg U ?_
            refine wr U ((rm U).to (v' := (.map (some N4))) rfl) rfl rfl ?_
            refine wr U ((rfa U fb_43_0 rfl).to (v' := (.pointer (some ⟨N6, 0, none⟩))) rfl) rfl rfl ?_
            refine wr U (rl1 U el_3 rfl (v := (.int .i64 ((E[q].1 : Nat) : Int))) (by rw [rrw U (by omega) hx_4]; rfl)) rfl rfl ?_
            refine wr U ((rd_lookup2 U um_46 key_int z_3 rfl (k := ((E[q].1 : Nat) : Int)) rfl (m := imF p 0) (.inl hk7)).to (v' := (.tuple #[(.int .i64 0), (.bool false)])) (look2_out h1)) rfl rfl ?_
            refine wr U ((rm U).to (v' := (.tuple #[(.int .i64 0), (.bool false)])) rfl) rfl rfl ?_
            refine wr U ((rd_extract U rfl rfl).to (v' := (.int .i64 0)) rfl) rfl rfl ?_
            refine wr U ((rd_extract U rfl rfl).to (v' := (.bool false)) rfl) rfl rfl ?_
            refine wr U ((ra U).to (v' := (.int .i64 0)) rfl) rfl rfl ?_
            refine wr U ((ra U).to (v' := (.bool false)) rfl) rfl rfl ?_
            refine wz U ?_
            repeat (first|refine nt ?_|refine nq ?_|refine wq U ?_)
            refine wg U ?_
            refine wr U ((rm U).to (v' := (.map (some N4))) rfl) rfl rfl ?_
            refine wr U ((rfa U fb_43_1 rfl).to (v' := (.pointer (some ⟨N6, 1, none⟩))) rfl) rfl rfl ?_
            refine wr U (rl1 U el_3 rfl (v := (.int .i64 ((E[q].2.1 : Nat) : Int))) (by rw [rrw U (by omega) hx_4]; rfl)) rfl rfl ?_
            refine wr U ((rd_lookup2 U um_46 key_int z_3 rfl (k := ((E[q].2.1 : Nat) : Int)) rfl (m := imF p 0) (.inl hk7)).to (v' := (.tuple #[(.int .i64 ((p.idxOf E[q].2.1 : Nat) : Int)), (.bool true)])) (look2_in h2)) rfl rfl ?_
            refine wr U ((rm U).to (v' := (.tuple #[(.int .i64 ((p.idxOf E[q].2.1 : Nat) : Int)), (.bool true)])) rfl) rfl rfl ?_
            refine wr U ((rd_extract U rfl rfl).to (v' := (.int .i64 ((p.idxOf E[q].2.1 : Nat) : Int))) rfl) rfl rfl ?_
            refine wr U ((rd_extract U rfl rfl).to (v' := (.bool true)) rfl) rfl rfl ?_
            refine wr U ((ra U).to (v' := (.int .i64 ((p.idxOf E[q].2.1 : Nat) : Int))) rfl) rfl rfl ?_
            refine wr U ((ra U).to (v' := (.bool true)) rfl) rfl rfl ?_
            refine wz U ?_
            repeat (first|refine nt ?_|refine nq ?_|refine wq U ?_)
            refine wg U ?_
            refine wr U ((rm U).to (v' := (.bool false)) rfl) rfl rfl ?_
            refine wr U ((rm U).to (v' := (.bool false)) rfl) rfl rfl ?_
            refine wl_pass U rfl rfl ?_
            refine wr U ((rd_pick U rfl).to (v' := (.bool false)) rfl) rfl rfl ?_
            refine wz U ?_
            repeat (first|refine nt ?_|refine nq ?_|refine wq U ?_)
            refine wcd U (t := false) rfl (fun h => nomatch h) fun _ => ?_
            have hin : ¬ inC p E[q] = true := by simp [inC]; intro h3 h4; first|exact h2 h4 | exact h1 h3
            rw [if_neg hin, List.append_nil] at hrs
            refine wsk U ?_
            repeat (first|refine nt ?_|refine nq ?_)
            repeat (first|refine nt ?_|refine nq ?_|refine wq U ?_)
            refine wg U ?_
            refine wr U (rd_add U rfl rfl (by omega) (by omega)) rfl rfl ?_
            refine wr U ((rm U).to (v' := (.int .i64 (((q : Nat) : Int) + 1))) rfl) rfl rfl ?_
            refine wz U ?_
            repeat (first|refine nt ?_|refine nq ?_)
            exact ⟨E.length - (q + 1), by omega, q + 1, lv, by omega, rfl, ⟨rfl, rfl, rfl, rfl, rfl, rfl, rfl, rfl, rfl, rfl, rfl, trivial⟩, hk7, by rw [hrs]; exact hlv7, hlb, hs6.trans hs7, by omega⟩
          · skip
            repeat (first|refine nt ?_|refine nq ?_|refine wq U ?_)
            refine wg U ?_
            refine wr U ((rm U).to (v' := (.map (some N4))) rfl) rfl rfl ?_
            refine wr U ((rfa U fb_43_0 rfl).to (v' := (.pointer (some ⟨N6, 0, none⟩))) rfl) rfl rfl ?_
            refine wr U (rl1 U el_3 rfl (v := (.int .i64 ((E[q].1 : Nat) : Int))) (by rw [rrw U (by omega) hx_4]; rfl)) rfl rfl ?_
            refine wr U ((rd_lookup2 U um_46 key_int z_3 rfl (k := ((E[q].1 : Nat) : Int)) rfl (m := imF p 0) (.inl hk7)).to (v' := (.tuple #[(.int .i64 0), (.bool false)])) (look2_out h1)) rfl rfl ?_
            refine wr U ((rm U).to (v' := (.tuple #[(.int .i64 0), (.bool false)])) rfl) rfl rfl ?_
            refine wr U ((rd_extract U rfl rfl).to (v' := (.int .i64 0)) rfl) rfl rfl ?_
            refine wr U ((rd_extract U rfl rfl).to (v' := (.bool false)) rfl) rfl rfl ?_
            refine wr U ((ra U).to (v' := (.int .i64 0)) rfl) rfl rfl ?_
            refine wr U ((ra U).to (v' := (.bool false)) rfl) rfl rfl ?_
            refine wz U ?_
            repeat (first|refine nt ?_|refine nq ?_|refine wq U ?_)
            refine wg U ?_
            refine wr U ((rm U).to (v' := (.map (some N4))) rfl) rfl rfl ?_
            refine wr U ((rfa U fb_43_1 rfl).to (v' := (.pointer (some ⟨N6, 1, none⟩))) rfl) rfl rfl ?_
            refine wr U (rl1 U el_3 rfl (v := (.int .i64 ((E[q].2.1 : Nat) : Int))) (by rw [rrw U (by omega) hx_4]; rfl)) rfl rfl ?_
            refine wr U ((rd_lookup2 U um_46 key_int z_3 rfl (k := ((E[q].2.1 : Nat) : Int)) rfl (m := imF p 0) (.inl hk7)).to (v' := (.tuple #[(.int .i64 0), (.bool false)])) (look2_out h2)) rfl rfl ?_
            refine wr U ((rm U).to (v' := (.tuple #[(.int .i64 0), (.bool false)])) rfl) rfl rfl ?_
            refine wr U ((rd_extract U rfl rfl).to (v' := (.int .i64 0)) rfl) rfl rfl ?_
            refine wr U ((rd_extract U rfl rfl).to (v' := (.bool false)) rfl) rfl rfl ?_
            refine wr U ((ra U).to (v' := (.int .i64 0)) rfl) rfl rfl ?_
            refine wr U ((ra U).to (v' := (.bool false)) rfl) rfl rfl ?_
            refine wz U ?_
            repeat (first|refine nt ?_|refine nq ?_|refine wq U ?_)
            refine wg U ?_
            refine wr U ((rm U).to (v' := (.bool false)) rfl) rfl rfl ?_
            refine wr U ((rm U).to (v' := (.bool false)) rfl) rfl rfl ?_
            refine wl_pass U rfl rfl ?_
            refine wr U ((rd_pick U rfl).to (v' := (.bool false)) rfl) rfl rfl ?_
            refine wz U ?_
            repeat (first|refine nt ?_|refine nq ?_|refine wq U ?_)
            refine wcd U (t := false) rfl (fun h => nomatch h) fun _ => ?_
            have hin : ¬ inC p E[q] = true := by simp [inC]; intro h3 h4; first|exact h2 h4 | exact h1 h3
            rw [if_neg hin, List.append_nil] at hrs
            refine wsk U ?_
            repeat (first|refine nt ?_|refine nq ?_)
            repeat (first|refine nt ?_|refine nq ?_|refine wq U ?_)
            refine wg U ?_
            refine wr U (rd_add U rfl rfl (by omega) (by omega)) rfl rfl ?_
            refine wr U ((rm U).to (v' := (.int .i64 (((q : Nat) : Int) + 1))) rfl) rfl rfl ?_
            refine wz U ?_
            repeat (first|refine nt ?_|refine nq ?_)
            exact ⟨E.length - (q + 1), by omega, q + 1, lv, by omega, rfl, ⟨rfl, rfl, rfl, rfl, rfl, rfl, rfl, rfl, rfl, rfl, rfl, trivial⟩, hk7, by rw [hrs]; exact hlv7, hlb, hs6.trans hs7, by omega⟩
      · replace hcq := of_decide_eq_false hcq
        refine wc_exit U ?_
        repeat (first|refine xt ?_|refine xps (by decide) ?_)
        refine xbl ?_
        repeat (first|refine nt ?_|refine nq ?_)
        have hql : q = E.length := by omega
        rw [hql, List.take_length] at hlv
        have hgr := renE_ok hg hpsrt (by omega)
        have hlr := hlv.rds U (fun b o h => (hlt6 b o h).1)
        repeat (first|refine nt ?_|refine nq ?_|refine wq U ?_)
        refine wg U ?_
        refine wr U ((rm U).to (v' := (.slice pu p.length capu)) rfl) rfl rfl ?_
        refine wr U ((rd_len' U sl_26 rfl).to (v' := (.int .i64 ((p.length : Nat) : Int))) rfl) rfl rfl ?_
        refine wr U ((rm U).to (v' := lv) rfl) rfl rfl ?_
        refine wl_op U rfl rfl (op_call U Tryz.f20 rfl rfl pf_20 (by kernel_rfl) (by kernel_rfl) ((s20 U p.length (renE p E) lv hgr H6 N6 hlr).mono U ?_))
        rintro _ H7 N7 hq2
        obtain ⟨hv_, rfl, hhv, hs7, hN7⟩ := hq2
        obtain ⟨hp_, hcap, rfl, hhc, hhp⟩ := hhv.edges U
        refine wl_own U fun hBN7 hlt7 => ?_
        refine wr U ((rm U).to (v' := (.tuple #[(.agg #[(.int .i64 ((p.length : Nat) : Int)), (.slice hp_ ((renE p E).length) hcap)]), (.int .i64 0)])) rfl) rfl rfl ?_
        refine wr U ((rd_extract U rfl rfl).to (v' := (.agg #[(.int .i64 ((p.length : Nat) : Int)), (.slice hp_ ((renE p E).length) hcap)])) rfl) rfl rfl ?_
        refine wr U ((rd_extract U rfl rfl).to (v' := (.int .i64 0)) rfl) rfl rfl ?_
        refine wl_op U rfl rfl (op_alloc U z_24 rfl ?_)
        refine wl_op0 U rfl (op_store U (vs := [(.int .i64 ((p.length : Nat) : Int)), (.slice hp_ ((renE p E).length) hcap)]) (cs := [(.int .i64 0), (.slice none 0 0)]) el_24 rfl rfl rfl rfl (one2 rfl rfl) (by first|(rw [hsy]; done) | (rw [hsy]; rfl)) (by omega) (by simp) ?_)
        refine wr U ((ra U).to (v' := (.int .i64 0)) rfl) rfl rfl ?_
        refine wz U ?_
        repeat (first|refine nt ?_|refine nq ?_)
        have hs47 := hs6.trans hs7
        refine wc_gen U (fun R => R N7 = some (.row 24 0 [(.int .i64 ((p.length : Nat) : Int)), (.slice hp_ ((renE p E).length) hcap)] 2) ∧ Sub _ R) ⟨(by first|(rw [hsy]; done) | (rw [hsy]; rfl)), (((Sub.refl _).hset (fresh hlt7 (by omega))).hset (fresh hlt7 (by omega)))⟩ ?_
        rintro H8 ⟨hx_5, hs8⟩ hBNH8 hltH8
        repeat (first|refine nt ?_|refine nq ?_|refine wq U ?_)
        refine wg U ?_
        refine wr U (rd_load2 U el_24 rfl (v0 := (.int .i64 ((p.length : Nat) : Int))) (v1 := (.slice hp_ ((renE p E).length) hcap))  (by rw [rrw U (by omega) hx_5]; rfl) (by rw [rrw U (by omega) hx_5]; rfl)) rfl rfl ?_
        refine wl_op U rfl rfl (op_call U Tryz.f21 rfl rfl pf_21 (by kernel_rfl) (by kernel_rfl) ((s21 U p.length (renE p E) _ hgr (by omega) H8 (N7 + 1) (hhv.sub U hs8)).mono U ?_))
        rintro _ H9 N9 hq3
        obtain ⟨iv, is, rfl, hiv, hib, hisrt, hIB, hs9, hN9⟩ := hq3
        obtain ⟨ip, ik, icap, rfl, hik, hic, hip⟩ := hiv.form
        obtain rfl : ik = is.length := by rw [nats_length] at hik; omega
        refine wr U ((rm U).to (v' := (.tuple #[(.slice ip is.length icap), (.int .i64 0)])) rfl) rfl rfl ?_
        refine wr U ((rd_extract U rfl rfl).to (v' := (.slice ip is.length icap)) rfl) rfl rfl ?_
        refine wr U ((rd_extract U rfl rfl).to (v' := (.int .i64 0)) rfl) rfl rfl ?_
        refine wr U ((ra U).to (v' := (.slice ip is.length icap)) rfl) rfl rfl ?_
        refine wr U ((ra U).to (v' := (.int .i64 0)) rfl) rfl rfl ?_
        refine wz U ?_
        repeat (first|refine nt ?_|refine nq ?_)
        refine wc_own U fun hBN9 hlt9 => ?_
        have hs49 := (hs47.trans hs8).trans hs9
        have hbst := Best.ren hpsrt hIB
        have hisl : is.length ≤ n := Nat.le_trans (hIB.lt (fun v hv => hv)) hcln
        have hlt_is : ∀ v ∈ is, v < p.length := hIB.mem
        have hivl : ∀ c, blkOf (.slice ip is.length icap) = some c → N7 + 1 ≤ c ∧ c < N9 := fun c hc => ⟨hib c hc, (hiv.lt hlt9 hc).2⟩
        repeat (first|refine nt ?_|refine nq ?_|refine wq U ?_)
        refine wg U ?_
        refine wr U ((rm U).to (v' := (.slice ip is.length icap)) rfl) rfl rfl ?_
        refine wr U ((rd_len' U sl_26 rfl).to (v' := (.int .i64 ((is.length : Nat) : Int))) rfl) rfl rfl ?_
        refine wr U ((rm U).to (v' := (.int .i64 0)) rfl) rfl rfl ?_
        refine wz U ?_
        repeat (first|refine nt ?_|refine nq ?_|refine wq U ?_)
        refine wc_block U ?_
        refine wc_loop U (fun m T H' N' => ∃ (r : Nat) (ov2 : Value), r ≤ is.length ∧ m = is.length - r ∧ Has T [(3, (.pointer (some ⟨N, 0, none⟩))), (6, ov2), (10, (.slice pu p.length capu)), (37, (.slice (some ⟨cb, coff, none⟩) pcs.length capc)), (38, (.int .i64 ((pcs.length : Nat) : Int))), (39, (.int .i64 ((i : Nat) : Int))), (101, (.slice ip is.length icap)), (102, (.int .i64 ((is.length : Nat) : Int))), (103, (.int .i64 ((r : Nat) : Int)))] ∧ IsSl H' ov2 3 1 (nats (oss.flatten ++ (is.take r).map fun x => p.getD x 0)) ∧ (∀ c, blkOf ov2 = some c → N3 ≤ c ∧ (c < N4 ∨ N9 ≤ c)) ∧ IsSl H' (.slice ip is.length icap) 3 1 (nats is) ∧ Sub H3 H' ∧ N9 ≤ N') is.length ⟨0, ov, Nat.zero_le _, rfl, ⟨rfl, rfl, rfl, rfl, rfl, rfl, rfl, rfl, rfl, trivial⟩, by simpa using hov.sub hs49, (fun c hc => ⟨hob c hc, .inl (hov.lt hlt4 hc).2⟩), hiv, hs4.trans hs49, Nat.le_refl _⟩ ?_
        rintro m T H10 N10 ⟨r, ov2, hr, rfl, hT, hov2, hob2, hiv2, hs10, hN10⟩
        obtain ⟨J8, rfl⟩ := hT.ex
        refine wc_own U fun hBN10 hlt10 => ?_
        repeat (first|refine nt ?_|refine nq ?_|refine wq U ?_)
        refine wg U ?_
        refine wr U (rd_lss U rfl rfl) rfl rfl ?_
        refine wz U ?_
        repeat (first|refine nt ?_|refine nq ?_|refine wq U ?_)
        refine wcd U (t := (decide (((r : Nat) : Int) < ((is.length : Nat) : Int)))) rfl (fun hcr => ?_) fun hcr => ?_
        · replace hcr := of_decide_eq_true hcr
          refine wsk U ?_
          repeat (first|refine nt ?_|refine nq ?_)
          have hr1 : r < is.length := by omega
          obtain ⟨ib, ioff, rfl⟩ := hip (by omega)
          have hir : is[r] < p.length := hlt_is _ (List.getElem_mem hr1)
          obtain ⟨ub, uoff, rfl⟩ := hpu (by omega)
          repeat (first|refine nt ?_|refine nq ?_|refine wq U ?_)
          refine wc_block U ?_
          have hir2 := hiv2.rds U (fun b o h => (hlt10 b o h).1)
          have hur10 := hur.sub U hs10
          repeat (first|refine nt ?_|refine nq ?_|refine wq U ?_)
          refine wg U ?_
          refine wr U (rd_idx1 U (j := r) sl_26 rfl rfl (by omega)) rfl rfl ?_
          refine wr U (rl1 U el_3 rfl (v := (.int .i64 ((is[r] : Nat) : Int))) (hir2.n0 U hr1)) rfl rfl ?_
          refine wr U ((ra U).to (v' := (.int .i64 ((is[r] : Nat) : Int))) rfl) rfl rfl ?_
          refine wz U ?_
          repeat (first|refine nt ?_|refine nq ?_|refine wq U ?_)
          refine wg U ?_
          refine wr U ((rm U).to (v' := ov2) rfl) rfl rfl ?_
          refine wr U ((rm U).to (v' := (.slice (some ⟨ub, uoff, none⟩) p.length capu)) rfl) rfl rfl ?_
          refine wr U ((rm U).to (v' := (.int .i64 ((is[r] : Nat) : Int))) rfl) rfl rfl ?_
          refine wr U (rd_idx1 U (j := is[r]) sl_26 rfl rfl hir) rfl rfl ?_
          refine wr U (rl1 U el_3 rfl (v := (.int .i64 ((p[is[r]] : Nat) : Int))) (hur10.n0 U hir)) rfl rfl ?_
          refine wl_op U rfl rfl (op_bs U sl_26 rfl (by decide) (by decide) [(.int .i64 ((p[is[r]] : Nat) : Int))] rfl (by simp [Value.cells]) rfl (cs := [(.int .i64 ((p[is[r]] : Nat) : Int))]) rfl ?_)
          refine wl_op U rfl rfl (op_append1 U (H0 := _) (cs := nats (oss.flatten ++ (is.take r).map fun x => p.getD x 0)) (ys := [(.int .i64 ((p[is[r]] : Nat) : Int))]) sl_26 rfl (by decide) rfl hov2 (fun hc => by have := (hov2.lt hlt10 hc).2; omega) rfl rfl rfl (by omega) (one1 rfl) (by rw [nats_length, List.length_append, List.length_map, List.length_take]; omega) (by rw [nats_length, List.length_append, List.length_map, List.length_take]; omega) ?_)
          intro wA HA NA hNA hslA hfrA hloA
          refine wr U ((ra U).to (v' := wA) rfl) rfl rfl ?_
          refine wz U ?_
          repeat (first|refine nt ?_|refine nq ?_)
          obtain ⟨cA, hcA1, hcA2, hcA3⟩ := hloA
          have hA : ∀ c, c < N10 → blkOf ov2 ≠ some c → HA c = H10 c := fun c hc hne => (hfrA c (by omega) hne).trans (hsn (by omega))
          repeat (first|refine nt ?_|refine nq ?_|refine wq U ?_)
          refine wg U ?_
          refine wr U (rd_add U rfl rfl (by omega) (by omega)) rfl rfl ?_
          refine wr U ((rm U).to (v' := (.int .i64 (((r : Nat) : Int) + 1))) rfl) rfl rfl ?_
          refine wz U ?_
          repeat (first|refine nt ?_|refine nq ?_)
          refine ⟨is.length - (r + 1), by omega, r + 1, wA, by omega, rfl, ⟨rfl, rfl, rfl, rfl, rfl, rfl, rfl, rfl, rfl, trivial⟩, ?_, ?_, ?_, ?_, by omega⟩
          · rw [List.take_succ_eq_append_getElem hr1, List.map_append, ← List.append_assoc, nats_append, List.map_cons, List.map_nil, show p.getD is[r] 0 = p[is[r]] by simp [List.getD_eq_getElem?_getD, hir]]; exact hslA
          · intro c hc; rw [hcA1] at hc; cases hc; rcases hcA3 with h | h; exact hob2 _ h; omega
          · exact hiv2.at fun c hc => hA c (hiv2.lt hlt10 hc).2 (fun h => by have := hob2 c h; have := hivl c hc; omega)
          · exact hs10.of fun c o hc => hA c (by have := (hlt3 c o hc).2; omega) (fun h => by have := hob2 c h; have := (hlt3 c o hc).2; omega)
        · replace hcr := of_decide_eq_false hcr
          refine wc_exit U ?_
          repeat (first|refine xt ?_|refine xps (by decide) ?_)
          refine xbl ?_
          repeat (first|refine nt ?_|refine nq ?_)
          have hrl2 : r = is.length := by omega
          rw [hrl2, List.take_length] at hov2
          repeat (first|refine nt ?_|refine nq ?_|refine wq U ?_)
          refine wg U ?_
          refine wr U (rd_add U rfl rfl (by omega) (by omega)) rfl rfl ?_
          refine wr U ((rm U).to (v' := (.int .i64 (((i : Nat) : Int) + 1))) rfl) rfl rfl ?_
          refine wz U ?_
          repeat (first|refine nt ?_|refine nq ?_)
          refine ⟨pcs.length - (i + 1), by omega, i + 1, ov2, oss ++ [is.map fun x => p.getD x 0], by omega, rfl, ⟨rfl, rfl, rfl, rfl, rfl, trivial⟩, ?_, ?_, (fun c hc => (hob2 c hc).1), hs10, by omega⟩
          · rw [List.take_succ_eq_append_getElem hi1, hc0]; exact hB.snoc hbst
          · rw [List.flatten_append]; simpa using hov2
  · replace hck := of_decide_eq_false hck
    refine wc_exit U ?_
    repeat (first|refine xt ?_|refine xps (by decide) ?_)
    refine xbl ?_
    repeat (first|refine nt ?_|refine nq ?_)
    rw [List.take_of_length_le (by omega), ← hpcs] at hB
    have hbst := hcs.best_kept hB
    repeat (first|refine nt ?_|refine nq ?_|refine wq U ?_)
    refine wg U ?_
    refine wr U ((rm U).to (v' := ov) rfl) rfl rfl ?_
    refine wl_op U rfl rfl (op_call U Tryz.f22 rfl rfl pf_22 (by kernel_rfl) (by kernel_rfl) ((s22 U ov oss.flatten _ _ hov (by omega)).mono U ?_))
    rintro _ H5 N5 ⟨rfl, hN5, hsl5, hfr5⟩
    refine wz U ?_
    repeat (first|refine nt ?_|refine nq ?_|refine wq U ?_)
    refine wg U ?_
    refine wr U ((rm U).to (v' := ov) rfl) rfl rfl ?_
    refine wr U ((ra U).to (v' := ov) rfl) rfl rfl ?_
    refine wr U ((ra U).to (v' := (.int .i64 0)) rfl) rfl rfl ?_
    refine wz U ?_
    refine wc_own U fun hBN5 hlt5 => ?_
    refine wc_ret U ?_
    repeat (first|refine ret1 ?_|refine ret2 ?_)
    exact end2 U (.inl rfl) rfl (v := ov) (v' := (.int .i64 0)) rfl rfl ⟨ov, sortN oss.flatten, rfl, hsl5.rds U (fun b o h => (hlt5 b o h).1), sortN_strict hbst.nd, hbst.perm (sortN_perm _), (hs13.trans hs4).of (fun c o hc => hfr5 c (fun h => by have := hob c h; have := (hlt c o hc).2; omega)), by omega⟩
end Go.Proofs.YtdmodppoellbkaaGreat
namespace Go.Proofs.YtdmodppoellbkaaGreat
open Go Go.RowKit
variable (U : Cx)
def lastI (l : List Nat) : Int := match l.getLast? with | none => -1 | some x => ((x : Nat) : Int)
theorem lastI_snoc (l : List Nat) (v : Nat) : lastI (l ++ [v]) = ((v : Nat) : Int) := by simp [lastI]
theorem lastI_lt {l : List Nat} (h : l.Pairwise (· < ·)) (v : Nat) : lastI l < ((v : Nat) : Int) ↔ ∀ x ∈ l, x < v := by
  unfold lastI
  cases hl : l.getLast? with
  | none => rw [List.getLast?_eq_none_iff] at hl; subst hl; simp; omega
  | some y =>
    obtain ⟨ys, rfl⟩ := List.getLast?_eq_some_iff.1 hl
    rw [List.pairwise_append] at h
    simp only
    constructor
    · intro hy x hx
      rcases List.mem_append.1 hx with h1 | h1
      · have := h.2.2 x h1 y (by simp); omega
      · simp at h1; omega
    · intro h1; have := h1 y (by simp); omega
theorem lastI_lo (l : List Nat) : -1 ≤ lastI l := by unfold lastI; split <;> omega
/-- An independent set, as it is told: rising. -/
def IndOk (n : Nat) (E : List NE) (is : List Nat) : Prop := is.Pairwise (· < ·) ∧ (∀ v ∈ is, v < n) ∧ ∀ u ∈ is, ∀ v ∈ is, ¬ adj E u v
theorem pw_take {is : List Nat} {i : Nat} (hi : i < is.length) (h : (is.take i).Pairwise (· < ·)) (hn : ¬ lastI (is.take i) < ((is[i] : Nat) : Int)) : ¬ is.Pairwise (· < ·) := fun hp => by
  refine hn ((lastI_lt h _).2 fun x hx => ?_)
  obtain ⟨j, hj, rfl⟩ := List.mem_iff_getElem.1 hx
  rw [List.length_take] at hj
  rw [List.getElem_take]
  exact List.pairwise_iff_getElem.1 hp j i (by omega) hi (by omega)
theorem ind_edges {E : List NE} {is : List Nat} : (∀ u ∈ is, ∀ v ∈ is, ¬ adj E u v) ↔ ¬ ∃ e ∈ E, e.1 ∈ is ∧ e.2.1 ∈ is := by
  constructor
  · rintro h ⟨e, he, h1, h2⟩; exact h _ h1 _ h2 ⟨e, he, .inl ⟨rfl, rfl⟩⟩
  · rintro h u hu v hv ⟨e, he, ⟨h1, h2⟩ | ⟨h1, h2⟩⟩
    · exact h ⟨e, he, h1 ▸ hu, h2 ▸ hv⟩
    · exact h ⟨e, he, h1 ▸ hv, h2 ▸ hu⟩
theorem s34 (e : NE) (mb cm : Nat) (ks : List Nat) (H : Hp) (N : Nat) (hmb : H mb = some (.row 64 0 [.map (some cm)] 1)) (hcm : H cm = some (.map (kmE ks))) : Spec U 34 #[(.agg #[(.int .i64 ((e.1 : Nat) : Int)), (.int .i64 ((e.2.1 : Nat) : Int)), (.int .i64 e.2.2)]), (.pointer (some ⟨mb, 0, none⟩))] H N (fun v H' N' => v = .bool (decide (e.1 ∈ ks) && decide (e.2.1 ∈ ks)) ∧ Sub H H' ∧ N ≤ N') := by
  refine spa U pf_34 (m := 14) rfl rfl (by simp) fun hBN hlt => ?_
  obtain ⟨J, hJ⟩ := Has.ex (T := argsT #[(.agg #[(.int .i64 ((e.1 : Nat) : Int)), (.int .i64 ((e.2.1 : Nat) : Int)), (.int .i64 e.2.2)]), (.pointer (some ⟨mb, 0, none⟩))]) (l := [(0, (.agg #[(.int .i64 ((e.1 : Nat) : Int)), (.int .i64 ((e.2.1 : Nat) : Int)), (.int .i64 e.2.2)])), (1, (.pointer (some ⟨mb, 0, none⟩)))]) ⟨rfl, rfl, trivial⟩
  rw [hJ]; clear hJ
  have hmbB := hlt _ _ hmb; have hcmB := hlt _ _ hcm
  repeat (first|refine nt ?_|refine nq ?_|refine wq U ?_)
  refine wg U ?_
  refine wl_op U rfl rfl (op_box U rfl rfl ?_)
  refine wr U ((ra U).to (v' := (.bool false)) rfl) rfl rfl ?_
  refine wz U ?_
  repeat (first|refine nt ?_|refine nq ?_)
  refine wc_gen U (fun R => R mb = some (.row 64 0 [(.map (some cm))] 1) ∧ R N = some (.row 43 0 [(.int .i64 ((e.1 : Nat) : Int)), (.int .i64 ((e.2.1 : Nat) : Int)), (.int .i64 e.2.2)] 3) ∧ Sub _ R) ⟨(by rw [hsn (b := mb) (c := N) (by omega)]; exact hmb), (by first|(rw [hsy]; done) | (rw [hsy]; rfl)), ((Sub.refl _).hset (fresh hlt (by omega)))⟩ ?_
  rintro H1 ⟨hx_1, hx_2, hs1⟩ hBNH1 hltH1
  have hcm1 := hs1 _ _ hcm
  by_cases h1 : e.1 ∈ ks
  · skip
    repeat (first|refine nt ?_|refine nq ?_|refine wq U ?_)
    refine wg U ?_
    refine wr U (rl1 U el_64 rfl (v := (.map (some cm))) (by rw [rrw U (by omega) hx_1]; rfl)) rfl rfl ?_
    refine wr U ((rfa U fb_43_0 rfl).to (v' := (.pointer (some ⟨N, 0, none⟩))) rfl) rfl rfl ?_
    refine wr U (rl1 U el_3 rfl (v := (.int .i64 ((e.1 : Nat) : Int))) (by rw [rrw U (by omega) hx_2]; rfl)) rfl rfl ?_
    refine wr U ((rd_lookup U um_64 key_int z_4 rfl (k := ((e.1 : Nat) : Int)) rfl (m := km ks) (.inl hcm1)).to (v' := (.bool true)) (by rw [look_km]; simp [*])) rfl rfl ?_
    refine wr U ((rm U).to (v' := (.bool true)) rfl) rfl rfl ?_
    refine wr U (rl1 U el_64 rfl (v := (.map (some cm))) (by rw [rrw U (by omega) hx_1]; rfl)) rfl rfl ?_
    refine wr U ((rfa U fb_43_1 rfl).to (v' := (.pointer (some ⟨N, 1, none⟩))) rfl) rfl rfl ?_
    refine wr U (rl1 U el_3 rfl (v := (.int .i64 ((e.2.1 : Nat) : Int))) (by rw [rrw U (by omega) hx_2]; rfl)) rfl rfl ?_
    refine wr U ((rd_lookup U um_64 key_int z_4 rfl (k := ((e.2.1 : Nat) : Int)) rfl (m := km ks) (.inl hcm1)).to (v' := (.bool (decide (e.2.1 ∈ ks)))) (look_km ks _)) rfl rfl ?_
    refine wr U ((rd_pick U rfl).to (v' := (.bool (decide (e.2.1 ∈ ks)))) rfl) rfl rfl ?_
    refine wr U ((ra U).to (v' := (.bool (decide (e.2.1 ∈ ks)))) rfl) rfl rfl ?_
    refine wz U ?_
    refine wc_ret U ?_
    repeat (first|refine ret1 ?_|refine ret2 ?_)
    exact end1 U (.inl rfl) rfl (v := (.bool (decide (e.2.1 ∈ ks)))) rfl ⟨by simp [h1], hs1, by omega⟩
  · skip
    repeat (first|refine nt ?_|refine nq ?_|refine wq U ?_)
    refine wg U ?_
    refine wr U (rl1 U el_64 rfl (v := (.map (some cm))) (by rw [rrw U (by omega) hx_1]; rfl)) rfl rfl ?_
    refine wr U ((rfa U fb_43_0 rfl).to (v' := (.pointer (some ⟨N, 0, none⟩))) rfl) rfl rfl ?_
    refine wr U (rl1 U el_3 rfl (v := (.int .i64 ((e.1 : Nat) : Int))) (by rw [rrw U (by omega) hx_2]; rfl)) rfl rfl ?_
    refine wr U ((rd_lookup U um_64 key_int z_4 rfl (k := ((e.1 : Nat) : Int)) rfl (m := km ks) (.inl hcm1)).to (v' := (.bool false)) (by rw [look_km]; simp [*])) rfl rfl ?_
    refine wr U ((rm U).to (v' := (.bool false)) rfl) rfl rfl ?_
    refine wl_pass U rfl rfl ?_
    refine wl_pass U rfl rfl ?_
    refine wl_pass U rfl rfl ?_
    refine wl_pass U rfl rfl ?_
    refine wr U ((rd_pick U rfl).to (v' := (.bool false)) rfl) rfl rfl ?_
    refine wr U ((ra U).to (v' := (.bool false)) rfl) rfl rfl ?_
    refine wz U ?_
    refine wc_ret U ?_
    repeat (first|refine ret1 ?_|refine ret2 ?_)
    exact end1 U (.inl rfl) rfl (v := (.bool false)) rfl ⟨by simp [h1], hs1, by omega⟩
theorem s52 (n : Nat) (E : List NE) (hg : GOk n E) (sv : Value) (mb cm : Nat) (ks : List Nat) (H : Hp) (N : Nat) (hv : RdS U H sv 3 (necs E)) (hmb : H mb = some (.row 64 0 [.map (some cm)] 1)) (hcm : H cm = some (.map (kmE ks))) : Spec U 52 #[sv, (.func (.func 34) #[] #[(.pointer (some ⟨mb, 0, none⟩))])] H N (fun v H' N' => (∃ r : Int, v = .int .i64 r ∧ (0 ≤ r ↔ ∃ e ∈ E, e.1 ∈ ks ∧ e.2.1 ∈ ks)) ∧ Sub H H' ∧ N ≤ N') := by
  obtain ⟨p, cap, rfl, hc, hp⟩ := hv.edges U
  refine spa U pf_52 (m := 19) rfl rfl (by simp) fun hBN hlt => ?_
  obtain ⟨J, hJ⟩ := Has.ex (T := argsT #[(.slice p E.length cap), (.func (.func 34) #[] #[(.pointer (some ⟨mb, 0, none⟩))])]) (l := [(0, (.slice p E.length cap)), (1, (.func (.func 34) #[] #[(.pointer (some ⟨mb, 0, none⟩))]))]) ⟨rfl, rfl, trivial⟩
  rw [hJ]; clear hJ
  have hm := hg.hm
  repeat (first|refine nt ?_|refine nq ?_|refine wq U ?_)
  refine wg U ?_
  refine wr U ((ra U).to (v' := (.int .i64 0)) rfl) rfl rfl ?_
  refine wz U ?_
  repeat (first|refine nt ?_|refine nq ?_|refine wq U ?_)
  refine wg U ?_
  refine wr U ((rm U).to (v' := (.slice p E.length cap)) rfl) rfl rfl ?_
  refine wr U ((rd_len' U sl_22 rfl).to (v' := (.int .i64 ((E.length : Nat) : Int))) rfl) rfl rfl ?_
  refine wr U ((rm U).to (v' := (.int .i64 0)) rfl) rfl rfl ?_
  refine wz U ?_
  repeat (first|refine nt ?_|refine nq ?_|refine wq U ?_)
  refine wc_block U ?_
  refine wc_loop U (fun m T H' N' => ∃ (i : Nat), i ≤ E.length ∧ m = E.length - i ∧ Has T [(0, (.slice p E.length cap)), (1, (.func (.func 34) #[] #[(.pointer (some ⟨mb, 0, none⟩))])), (6, (.slice p E.length cap)), (7, (.int .i64 ((E.length : Nat) : Int))), (8, (.int .i64 ((i : Nat) : Int)))] ∧ (∀ e ∈ E.take i, ¬ (e.1 ∈ ks ∧ e.2.1 ∈ ks)) ∧ Sub H H' ∧ N ≤ N') E.length ⟨0, Nat.zero_le _, rfl, ⟨rfl, rfl, rfl, rfl, rfl, trivial⟩, by simp, Sub.refl _, Nat.le_refl _⟩ ?_
  rintro m T H2 N2 ⟨i, hi, rfl, hT, hno, hs2, hN2⟩
  obtain ⟨J, rfl⟩ := hT.ex
  repeat (first|refine nt ?_|refine nq ?_|refine wq U ?_)
  refine wg U ?_
  refine wr U (rd_lss U rfl rfl) rfl rfl ?_
  refine wz U ?_
  repeat (first|refine nt ?_|refine nq ?_|refine wq U ?_)
  refine wcd U (t := (decide (((i : Nat) : Int) < ((E.length : Nat) : Int)))) rfl (fun hck => ?_) fun hck => ?_
  · replace hck := of_decide_eq_true hck
    refine wsk U ?_
    repeat (first|refine nt ?_|refine nq ?_)
    have hi1 : i < E.length := by omega
    obtain ⟨eb, eoff, rfl⟩ := hp (by omega)
    repeat (first|refine nt ?_|refine nq ?_|refine wq U ?_)
    refine wc_block U ?_
    have hv2 := hv.sub U hs2
    repeat (first|refine nt ?_|refine nq ?_|refine wq U ?_)
    refine wg U ?_
    refine wr U ((rm U).to (v' := (.int .i64 ((i : Nat) : Int))) rfl) rfl rfl ?_
    refine wr U ((ra U).to (v' := (.int .i64 ((i : Nat) : Int))) rfl) rfl rfl ?_
    refine wz U ?_
    repeat (first|refine nt ?_|refine nq ?_|refine wq U ?_)
    refine wg U ?_
    refine wr U ((rm U).to (v' := (.func (.func 34) #[] #[(.pointer (some ⟨mb, 0, none⟩))])) rfl) rfl rfl ?_
    refine wr U ((rm U).to (v' := (.slice (some ⟨eb, eoff, none⟩) E.length cap)) rfl) rfl rfl ?_
    refine wr U ((rm U).to (v' := (.int .i64 ((i : Nat) : Int))) rfl) rfl rfl ?_
    refine wr U (rd_idxN U (j := i) sl_22 rfl rfl (by omega)) rfl rfl ?_
    refine wr U (rd_load3 U el_43 rfl (v0 := (.int .i64 ((E[i].1 : Nat) : Int))) (v1 := (.int .i64 ((E[i].2.1 : Nat) : Int))) (v2 := (.int .i64 (E[i].2.2)))  (hv2.e0 U hi1) (hv2.e1 U hi1) (hv2.e2 U hi1)) rfl rfl ?_
    refine wl_op U rfl rfl (op_call U Tryz.f34 rfl rfl pf_34 (by kernel_rfl) (by kernel_rfl) ((s34 U E[i] mb cm ks H2 N2 (hs2 _ _ hmb) (hs2 _ _ hcm)).mono U ?_))
    rintro _ H3 N3 ⟨rfl, hs3, hN3⟩
    refine wz U ?_
    repeat (first|refine nt ?_|refine nq ?_|refine wq U ?_)
    refine wcd U (t := (decide (E[i].1 ∈ ks) && decide (E[i].2.1 ∈ ks))) rfl (fun hb => ?_) fun hb => ?_
    · skip
      repeat (first|refine nt ?_|refine nq ?_|refine wq U ?_)
      refine wg U ?_
      refine wr U ((rm U).to (v' := (.int .i64 ((i : Nat) : Int))) rfl) rfl rfl ?_
      refine wr U ((ra U).to (v' := (.int .i64 ((i : Nat) : Int))) rfl) rfl rfl ?_
      refine wz U ?_
      refine wc_ret U ?_
      repeat (first|refine ret1 ?_|refine ret2 ?_)
      exact end1 U (.inl rfl) rfl (v := (.int .i64 ((i : Nat) : Int))) rfl ⟨⟨_, rfl, ⟨fun _ => ⟨E[i], List.getElem_mem hi1, by simpa using hb⟩, fun _ => by omega⟩⟩, hs2.trans hs3, by omega⟩
    · skip
      refine wsk U ?_
      repeat (first|refine nt ?_|refine nq ?_)
      repeat (first|refine nt ?_|refine nq ?_|refine wq U ?_)
      refine wg U ?_
      refine wr U (rd_add U rfl rfl (by omega) (by omega)) rfl rfl ?_
      refine wr U ((rm U).to (v' := (.int .i64 (((i : Nat) : Int) + 1))) rfl) rfl rfl ?_
      refine wz U ?_
      repeat (first|refine nt ?_|refine nq ?_)
      refine ⟨E.length - (i + 1), by omega, i + 1, by omega, rfl, ⟨rfl, rfl, rfl, rfl, rfl, trivial⟩, ?_, hs2.trans hs3, by omega⟩
      intro e he; rw [List.take_succ_eq_append_getElem hi1, List.mem_append, List.mem_singleton] at he; rcases he with he | rfl; exact hno e he; simpa using hb
  · replace hck := of_decide_eq_false hck
    refine wc_exit U ?_
    repeat (first|refine xt ?_|refine xps (by decide) ?_)
    refine xbl ?_
    repeat (first|refine nt ?_|refine nq ?_)
    rw [List.take_of_length_le (by omega)] at hno
    repeat (first|refine nt ?_|refine nq ?_|refine wq U ?_)
    refine wg U ?_
    refine wr U ((ra U).to (v' := (.int .i64 (-1))) rfl) rfl rfl ?_
    refine wz U ?_
    refine wc_ret U ?_
    repeat (first|refine ret1 ?_|refine ret2 ?_)
    exact end1 U (.inl rfl) rfl (v := (.int .i64 (-1))) rfl ⟨⟨_, rfl, ⟨fun h => absurd h (by omega), fun ⟨e, he, h⟩ => absurd h (hno e he)⟩⟩, hs2, hN2⟩
theorem s33 (n : Nat) (E : List NE) (hg : GOk n E) (sv : Value) (mb cm : Nat) (ks : List Nat) (H : Hp) (N : Nat) (hv : RdS U H sv 3 (necs E)) (hmb : H mb = some (.row 64 0 [.map (some cm)] 1)) (hcm : H cm = some (.map (kmE ks))) : Spec U 33 #[sv, (.func (.func 34) #[] #[(.pointer (some ⟨mb, 0, none⟩))])] H N (fun v H' N' => (∃ b : Bool, v = .bool b ∧ (b = true ↔ ∃ e ∈ E, e.1 ∈ ks ∧ e.2.1 ∈ ks)) ∧ Sub H H' ∧ N ≤ N') := by
  refine spa U pf_33 (m := 9) rfl rfl (by simp) fun hBN hlt => ?_
  obtain ⟨J, hJ⟩ := Has.ex (T := argsT #[sv, (.func (.func 34) #[] #[(.pointer (some ⟨mb, 0, none⟩))])]) (l := [(0, sv), (1, (.func (.func 34) #[] #[(.pointer (some ⟨mb, 0, none⟩))]))]) ⟨rfl, rfl, trivial⟩
  rw [hJ]; clear hJ
  repeat (first|refine nt ?_|refine nq ?_|refine wq U ?_)
  refine wg U ?_
  refine wr U ((ra U).to (v' := (.bool false)) rfl) rfl rfl ?_
  refine wz U ?_
  repeat (first|refine nt ?_|refine nq ?_|refine wq U ?_)
  refine wg U ?_
  refine wr U ((rm U).to (v' := sv) rfl) rfl rfl ?_
  refine wr U ((rm U).to (v' := (.func (.func 34) #[] #[(.pointer (some ⟨mb, 0, none⟩))])) rfl) rfl rfl ?_
  refine wl_op U rfl rfl (op_call U Tryz.f52 rfl rfl pf_52 (by kernel_rfl) (by kernel_rfl) ((s52 U n E hg sv mb cm ks H N hv hmb hcm).mono U ?_))
  rintro _ H2 N2 ⟨⟨r, rfl, hr⟩, hs2, hN2⟩
  refine wr U (rd_geq U rfl rfl) rfl rfl ?_
  refine wr U ((ra U).to (v' := (.bool (decide (0 ≤ r)))) rfl) rfl rfl ?_
  refine wz U ?_
  refine wc_ret U ?_
  repeat (first|refine ret1 ?_|refine ret2 ?_)
  exact end1 U (.inl rfl) rfl (v := (.bool (decide (0 ≤ r)))) rfl ⟨⟨_, rfl, by rw [decide_eq_true_iff]; exact hr⟩, hs2, hN2⟩
theorem s18 (n : Nat) (E : List NE) (sv iv : Value) (is : List Nat) (hg : GOk n E) (hl : is.length ≤ 100000) (H : Hp) (N : Nat) (hv : RdS U H sv 3 (necs E)) (hi : RdS U H iv 1 (nats is)) : Spec U 18 #[(.agg #[(.int .i64 ((n : Nat) : Int)), sv]), iv] H N (fun v H' N' => (∃ k : Int, v = .int .i64 k ∧ (k = 0 ↔ IndOk n E is)) ∧ Sub H H' ∧ N ≤ N') := by
  obtain ⟨p, cap, rfl, hc, hp⟩ := hv.edges U
  obtain ⟨ip, icap, rfl, hic, hip⟩ := hi.nums U
  refine spa U pf_18 (m := 36) rfl rfl (by simp) fun hBN hlt => ?_
  obtain ⟨J, hJ⟩ := Has.ex (T := argsT #[(.agg #[(.int .i64 ((n : Nat) : Int)), (.slice p E.length cap)]), (.slice ip is.length icap)]) (l := [(0, (.agg #[(.int .i64 ((n : Nat) : Int)), (.slice p E.length cap)])), (1, (.slice ip is.length icap))]) ⟨rfl, rfl, trivial⟩
  rw [hJ]; clear hJ
  have hn := hg.hn
  repeat (first|refine nt ?_|refine nq ?_|refine wq U ?_)
  refine wg U ?_
  refine wl_op U rfl rfl (op_box U rfl rfl ?_)
  refine wr U ((ra U).to (v' := (.int .i64 0)) rfl) rfl rfl ?_
  refine wz U ?_
  repeat (first|refine nt ?_|refine nq ?_)
  refine wc_gen U (fun R => R N = some (.row 24 0 [(.int .i64 ((n : Nat) : Int)), (.slice p E.length cap)] 2) ∧ Sub _ R) ⟨(by first|(rw [hsy]; done) | (rw [hsy]; rfl)), ((Sub.refl _).hset (fresh hlt (by omega)))⟩ ?_
  rintro H1 ⟨hx_3, hs1⟩ hBNH1 hltH1
  repeat (first|refine nt ?_|refine nq ?_|refine wq U ?_)
  refine wg U ?_
  refine wr U (rd_load2 U el_24 rfl (v0 := (.int .i64 ((n : Nat) : Int))) (v1 := (.slice p E.length cap))  (by rw [rrw U (by omega) hx_3]; rfl) (by rw [rrw U (by omega) hx_3]; rfl)) rfl rfl ?_
  refine wl_op U rfl rfl (op_call U Tryz.f32 rfl rfl pf_32 (by kernel_rfl) (by kernel_rfl) ((s32 U n E _ hg _ _ (hv.sub U hs1)).mono U ?_))
  rintro _ H2 N2 ⟨rfl, hs2, hN2⟩
  have hx_4 := hs2 N _ hx_3
  have hs_5 := (Sub.refl _).trans hs2
  refine wr U ((rd_neq U rfl rfl).to (v' := (.bool false)) rfl) rfl rfl ?_
  refine wz U ?_
  repeat (first|refine nt ?_|refine nq ?_|refine wq U ?_)
  refine wcd U (t := false) rfl (fun h => nomatch h) fun _ => ?_
  refine wsk U ?_
  repeat (first|refine nt ?_|refine nq ?_)
  refine wc_own U fun hBN2 hlt2 => ?_
  have hbx2 : H2 N = _ := hs2 _ _ hx_3
  have hs12 := hs1.trans hs2
  repeat (first|refine nt ?_|refine nq ?_|refine wq U ?_)
  refine wg U ?_
  refine wr U ((ra U).to (v' := (.int .i64 (-1))) rfl) rfl rfl ?_
  refine wz U ?_
  repeat (first|refine nt ?_|refine nq ?_|refine wq U ?_)
  refine wg U ?_
  refine wl_op U rfl rfl (op_makeMap U ?_)
  refine wl_op U rfl rfl (op_alloc U z_64 rfl ?_)
  refine wl_op0 U rfl (op_store U (vs := [(.map (some N2))]) (cs := [(.map none)]) el_64 rfl rfl rfl rfl (one1 rfl) (by first|(rw [hsy]; done) | (rw [hsy]; rfl)) (by omega) (by simp) ?_)
  refine wz U ?_
  repeat (first|refine nt ?_|refine nq ?_)
  refine wc_gen U (fun R => R N2 = some (.map (kmE (is.take 0))) ∧ R (N2 + 1) = some (.row 64 0 [.map (some N2)] 1) ∧ Sub H2 R) ⟨(hsn (by omega)).trans ((hsn (by omega)).trans hsy), hsy, (((Sub.refl H2).hset (fresh hlt2 (by omega))).hset (fresh hlt2 (by omega))).hset (fresh hlt2 (by omega))⟩ ?_
  rintro H3 ⟨hcm3, hmb3, hs3⟩ hBN3 hlt3
  repeat (first|refine nt ?_|refine nq ?_|refine wq U ?_)
  refine wg U ?_
  refine wr U ((rm U).to (v' := (.slice ip is.length icap)) rfl) rfl rfl ?_
  refine wr U ((rd_len' U sl_26 rfl).to (v' := (.int .i64 ((is.length : Nat) : Int))) rfl) rfl rfl ?_
  refine wr U ((rm U).to (v' := (.int .i64 0)) rfl) rfl rfl ?_
  refine wz U ?_
  repeat (first|refine nt ?_|refine nq ?_|refine wq U ?_)
  refine wc_block U ?_
  refine wc_loop U (fun m T H' N' => ∃ (i : Nat), i ≤ is.length ∧ m = is.length - i ∧ Has T [(2, (.pointer (some ⟨N, 0, none⟩))), (5, (.int .i64 (lastI (is.take i)))), (6, (.pointer (some ⟨(N2 + 1), 0, none⟩))), (13, (.slice ip is.length icap)), (14, (.int .i64 ((is.length : Nat) : Int))), (15, (.int .i64 ((i : Nat) : Int)))] ∧ (is.take i).Pairwise (· < ·) ∧ (∀ v ∈ is.take i, v < n) ∧ H' N2 = some (.map (kmE (is.take i))) ∧ H' (N2 + 1) = some (.row 64 0 [.map (some N2)] 1) ∧ Sub H2 H' ∧ N2 + 2 = N') is.length ⟨0, Nat.zero_le _, rfl, ⟨rfl, rfl, rfl, rfl, rfl, rfl, trivial⟩, by simp, by simp, hcm3, hmb3, hs3, rfl⟩ ?_
  rintro m T H4 _ ⟨i, hii, rfl, hT, hpw, hln, hcm4, hmb4, hs4, rfl⟩
  obtain ⟨J, rfl⟩ := hT.ex
  repeat (first|refine nt ?_|refine nq ?_|refine wq U ?_)
  refine wg U ?_
  refine wr U (rd_lss U rfl rfl) rfl rfl ?_
  refine wz U ?_
  repeat (first|refine nt ?_|refine nq ?_|refine wq U ?_)
  refine wcd U (t := (decide (((i : Nat) : Int) < ((is.length : Nat) : Int)))) rfl (fun hck => ?_) fun hck => ?_
  · replace hck := of_decide_eq_true hck
    refine wsk U ?_
    repeat (first|refine nt ?_|refine nq ?_)
    have hi1 : i < is.length := by omega
    obtain ⟨ib, ioff, rfl⟩ := hip (by omega)
    repeat (first|refine nt ?_|refine nq ?_|refine wq U ?_)
    refine wc_block U ?_
    repeat (first|refine nt ?_|refine nq ?_|refine wq U ?_)
    refine wg U ?_
    refine wr U (rd_idx1 U (j := i) sl_26 rfl rfl (by omega)) rfl rfl ?_
    refine wr U (rl1 U el_3 rfl (v := (.int .i64 ((is[i] : Nat) : Int))) ((hi.sub U (hs12.trans hs4)).n0 U hi1)) rfl rfl ?_
    refine wr U ((ra U).to (v' := (.int .i64 ((is[i] : Nat) : Int))) rfl) rfl rfl ?_
    refine wz U ?_
    by_cases hb1 : lastI (is.take i) < ((is[i] : Nat) : Int)
    · skip
      repeat (first|refine nt ?_|refine nq ?_|refine wq U ?_)
      refine wg U ?_
      refine wr U ((rm U).to (v' := (.int .i64 ((is[i] : Nat) : Int))) rfl) rfl rfl ?_
      refine wr U ((rm U).to (v' := (.int .i64 (lastI (is.take i)))) rfl) rfl rfl ?_
      refine wr U ((rd_leq U rfl rfl).to (v' := (.bool false)) (congrArg Value.bool (decide_eq_false (by omega)))) rfl rfl ?_
      refine wr U ((rm U).to (v' := (.bool false)) rfl) rfl rfl ?_
      refine wr U ((rm U).to (v' := (.int .i64 ((is[i] : Nat) : Int))) rfl) rfl rfl ?_
      refine wr U ((rfa U fb_24_0 rfl).to (v' := (.pointer (some ⟨N, 0, none⟩))) rfl) rfl rfl ?_
      refine wr U (rl1 U el_3 rfl (v := (.int .i64 ((n : Nat) : Int))) (by rw [rrw U (by omega) (hs4 _ _ hbx2)]; rfl)) rfl rfl ?_
      refine wr U (rd_geq U rfl rfl) rfl rfl ?_
      refine wr U ((rd_pick U rfl).to (v' := (.bool (decide (((n : Nat) : Int) ≤ ((is[i] : Nat) : Int))))) rfl) rfl rfl ?_
      refine wz U ?_
      repeat (first|refine nt ?_|refine nq ?_|refine wq U ?_)
      refine wcd U (t := (decide (((n : Nat) : Int) ≤ ((is[i] : Nat) : Int)))) rfl (fun hge => ?_) fun hge => ?_
      · replace hge := of_decide_eq_true hge
        repeat (first|refine nt ?_|refine nq ?_|refine wq U ?_)
        refine wg U ?_
        refine wr U ((ra U).to (v' := (.int .i64 13)) rfl) rfl rfl ?_
        refine wz U ?_
        refine wc_ret U ?_
        repeat (first|refine ret1 ?_|refine ret2 ?_)
        exact end1 U (.inl rfl) rfl (v := (.int .i64 13)) rfl ⟨⟨_, rfl, ⟨fun h => by omega, fun h => by have := h.2.1 is[i] (List.getElem_mem hi1); omega⟩⟩, hs12.trans hs4, by omega⟩
      · replace hge := of_decide_eq_false hge
        refine wsk U ?_
        repeat (first|refine nt ?_|refine nq ?_)
        repeat (first|refine nt ?_|refine nq ?_|refine wq U ?_)
        refine wg U ?_
        refine wr U ((rm U).to (v' := (.int .i64 ((is[i] : Nat) : Int))) rfl) rfl rfl ?_
        refine wr U ((ra U).to (v' := (.int .i64 ((is[i] : Nat) : Int))) rfl) rfl rfl ?_
        refine wz U ?_
        have hall := (lastI_lt hpw _).1 hb1
        have hnm : is[i] ∉ is.take i := fun hm => by have := hall _ hm; omega
        repeat (first|refine nt ?_|refine nq ?_|refine wq U ?_)
        refine wg U ?_
        refine wr U (rl1 U el_64 rfl (v := (.map (some N2))) (by rw [rrw U (by omega) hmb4]; rfl)) rfl rfl ?_
        refine wr U ((rm U).to (v' := (.int .i64 ((is[i] : Nat) : Int))) rfl) rfl rfl ?_
        refine wl_op0 U rfl (op_mapUpdate U (v := .bool true) (k := ((is[i] : Nat) : Int)) (m := km (is.take i)) um_64 key_int rfl rfl rfl hcm4 ?_)
        refine wz U ?_
        repeat (first|refine nt ?_|refine nq ?_)
        have hts := List.take_succ_eq_append_getElem hi1
        rw [put_km, show addK (is.take i) is[i] = is.take (i + 1) by rw [hts]; exact if_neg hnm]
        repeat (first|refine nt ?_|refine nq ?_|refine wq U ?_)
        refine wg U ?_
        refine wr U (rd_add U rfl rfl (by omega) (by omega)) rfl rfl ?_
        refine wr U ((rm U).to (v' := (.int .i64 (((i : Nat) : Int) + 1))) rfl) rfl rfl ?_
        refine wz U ?_
        repeat (first|refine nt ?_|refine nq ?_)
        refine ⟨is.length - (i + 1), by omega, i + 1, by omega, rfl, ⟨rfl, by rw [hts, lastI_snoc]; rfl, rfl, rfl, rfl, rfl, trivial⟩, ?_, ?_, hsy, (hsn (by omega)).trans hmb4, hs4.hset (fresh hlt2 (by omega)), rfl⟩
        · rw [hts, List.pairwise_append]; exact ⟨hpw, by simp, fun a ha b hb => by simp at hb; subst hb; exact hall a ha⟩
        · intro v hv; rw [hts, List.mem_append, List.mem_singleton] at hv; rcases hv with hv | rfl; exact hln v hv; omega
    · skip
      repeat (first|refine nt ?_|refine nq ?_|refine wq U ?_)
      refine wg U ?_
      refine wr U ((rm U).to (v' := (.int .i64 ((is[i] : Nat) : Int))) rfl) rfl rfl ?_
      refine wr U ((rm U).to (v' := (.int .i64 (lastI (is.take i)))) rfl) rfl rfl ?_
      refine wr U ((rd_leq U rfl rfl).to (v' := (.bool true)) (congrArg Value.bool (decide_eq_true (by omega)))) rfl rfl ?_
      refine wr U ((rm U).to (v' := (.bool true)) rfl) rfl rfl ?_
      refine wl_pass U rfl rfl ?_
      refine wl_pass U rfl rfl ?_
      refine wl_pass U rfl rfl ?_
      refine wl_pass U rfl rfl ?_
      refine wr U ((rd_pick U rfl).to (v' := (.bool true)) rfl) rfl rfl ?_
      refine wz U ?_
      repeat (first|refine nt ?_|refine nq ?_|refine wq U ?_)
      refine wcd U (t := true) rfl (fun _ => ?_) (fun h => nomatch h)
      repeat (first|refine nt ?_|refine nq ?_|refine wq U ?_)
      refine wg U ?_
      refine wr U ((ra U).to (v' := (.int .i64 13)) rfl) rfl rfl ?_
      refine wz U ?_
      refine wc_ret U ?_
      repeat (first|refine ret1 ?_|refine ret2 ?_)
      exact end1 U (.inl rfl) rfl (v := (.int .i64 13)) rfl ⟨⟨_, rfl, ⟨fun h => by omega, fun h => absurd h.1 (pw_take hi1 hpw hb1)⟩⟩, hs12.trans hs4, by omega⟩
  · replace hck := of_decide_eq_false hck
    refine wc_exit U ?_
    repeat (first|refine xt ?_|refine xps (by decide) ?_)
    refine xbl ?_
    repeat (first|refine nt ?_|refine nq ?_)
    rw [List.take_of_length_le (by omega)] at hpw hln hcm4
    repeat (first|refine nt ?_|refine nq ?_|refine wq U ?_)
    refine wg U ?_
    refine wr U ((rfa U fb_24_1 rfl).to (v' := (.pointer (some ⟨N, 1, none⟩))) rfl) rfl rfl ?_
    refine wr U (rl1 U el_22 rfl (v := (.slice p E.length cap)) (by rw [rrw U (by omega) (hs4 _ _ hbx2)]; rfl)) rfl rfl ?_
    refine wr U ((rd_makeFunc U).to (v' := (.func (.func 34) #[] #[(.pointer (some ⟨(N2 + 1), 0, none⟩))])) rfl) rfl rfl ?_
    refine wl_op U rfl rfl (op_call U Tryz.f33 rfl rfl pf_33 (by kernel_rfl) (by kernel_rfl) ((s33 U n E hg _ (N2 + 1) N2 is H4 (N2 + 2) (hv.sub U (hs12.trans hs4)) hmb4 hcm4).mono U ?_))
    rintro _ H5 N5 ⟨⟨bo, rfl, hbo⟩, hs5, hN5⟩
    refine wz U ?_
    repeat (first|refine nt ?_|refine nq ?_|refine wq U ?_)
    refine wcd U (t := bo) rfl (fun hb => ?_) fun hb => ?_
    · skip
      repeat (first|refine nt ?_|refine nq ?_|refine wq U ?_)
      refine wg U ?_
      refine wr U ((ra U).to (v' := (.int .i64 13)) rfl) rfl rfl ?_
      refine wz U ?_
      refine wc_ret U ?_
      repeat (first|refine ret1 ?_|refine ret2 ?_)
      exact end1 U (.inl rfl) rfl (v := (.int .i64 13)) rfl ⟨⟨_, rfl, ⟨fun h => by omega, fun h => absurd (hbo.1 hb) (ind_edges.1 h.2.2)⟩⟩, (hs12.trans hs4).trans hs5, by omega⟩
    · skip
      refine wsk U ?_
      repeat (first|refine nt ?_|refine nq ?_)
      repeat (first|refine nt ?_|refine nq ?_|refine wq U ?_)
      refine wg U ?_
      refine wr U ((ra U).to (v' := (.int .i64 0)) rfl) rfl rfl ?_
      refine wz U ?_
      refine wc_ret U ?_
      repeat (first|refine ret1 ?_|refine ret2 ?_)
      exact end1 U (.inl rfl) rfl (v := (.int .i64 0)) rfl ⟨⟨_, rfl, ⟨fun _ => ⟨hpw, hln, ind_edges.2 (fun h => by have := hbo.2 h; rw [hb] at this; cases this)⟩, fun _ => rfl⟩⟩, (hs12.trans hs4).trans hs5, by omega⟩
theorem s10 (n : Nat) (E : List NE) (sv iv : Value) (is : List Nat) (most : Int) (k : Nat) (hk1 : 1 ≤ k) (hk8 : k ≤ 8) (hg : GOk n E) (hl : is.length ≤ 100000) (H : Hp) (N : Nat) (hv : RdS U H sv 3 (necs E)) (hi : RdS U H iv 1 (nats is)) : Spec U 10 #[(.agg #[(.int .i64 ((n : Nat) : Int)), sv]), iv, (.int .i64 most), (.int .i64 ((k : Nat) : Int))] H N (fun v H' N' => (∃ b : Bool, v = .bool b ∧ (b = true ↔ 0 ≤ most ∧ most ≤ 1048576 ∧ IndOk n E is ∧ ((k : Nat) : Int) * most ≤ (((k : Nat) : Int) + 1) * ((is.length : Nat) : Int))) ∧ Sub H H' ∧ N ≤ N') := by
  obtain ⟨p, cap, rfl, hc, hp⟩ := hv.edges U
  obtain ⟨ip, icap, rfl, hic, hip⟩ := hi.nums U
  refine spa U pf_10 (m := 31) rfl rfl (by simp) fun hBN hlt => ?_
  obtain ⟨J, hJ⟩ := Has.ex (T := argsT #[(.agg #[(.int .i64 ((n : Nat) : Int)), (.slice p E.length cap)]), (.slice ip is.length icap), (.int .i64 most), (.int .i64 ((k : Nat) : Int))]) (l := [(0, (.agg #[(.int .i64 ((n : Nat) : Int)), (.slice p E.length cap)])), (1, (.slice ip is.length icap)), (2, (.int .i64 most)), (3, (.int .i64 ((k : Nat) : Int)))]) ⟨rfl, rfl, rfl, rfl, trivial⟩
  rw [hJ]; clear hJ
  repeat (first|refine nt ?_|refine nq ?_|refine wq U ?_)
  refine wg U ?_
  refine wl_op U rfl rfl (op_box U rfl rfl ?_)
  refine wr U ((ra U).to (v' := (.bool false)) rfl) rfl rfl ?_
  refine wz U ?_
  repeat (first|refine nt ?_|refine nq ?_)
  refine wc_gen U (fun R => R N = some (.row 24 0 [(.int .i64 ((n : Nat) : Int)), (.slice p E.length cap)] 2) ∧ Sub _ R) ⟨(by first|(rw [hsy]; done) | (rw [hsy]; rfl)), ((Sub.refl _).hset (fresh hlt (by omega)))⟩ ?_
  rintro H1 ⟨hx_6, hs1⟩ hBNH1 hltH1
  repeat (first|refine nt ?_|refine nq ?_|refine wq U ?_)
  refine wc_block U ?_
  repeat (first|refine nt ?_|refine nq ?_|refine wq U ?_)
  refine wg U ?_
  refine wr U ((rm U).to (v' := (.int .i64 ((k : Nat) : Int))) rfl) rfl rfl ?_
  refine wr U ((rd_lss U rfl rfl).to (v' := (.bool false)) (congrArg Value.bool (decide_eq_false (by omega)))) rfl rfl ?_
  refine wr U ((ra U).to (v' := (.bool false)) rfl) rfl rfl ?_
  refine wz U ?_
  repeat (first|refine nt ?_|refine nq ?_|refine wq U ?_)
  refine wcd U (t := false) rfl (fun h => nomatch h) fun _ => ?_
  repeat (first|refine nt ?_|refine nq ?_|refine wq U ?_)
  refine wg U ?_
  refine wr U ((rm U).to (v' := (.int .i64 ((k : Nat) : Int))) rfl) rfl rfl ?_
  refine wr U ((rd_gtr U rfl rfl).to (v' := (.bool false)) (congrArg Value.bool (decide_eq_false (by omega)))) rfl rfl ?_
  refine wr U ((ra U).to (v' := (.bool false)) rfl) rfl rfl ?_
  refine wz U ?_
  repeat (first|refine nt ?_|refine nq ?_|refine wq U ?_)
  refine wcd U (t := false) rfl (fun h => nomatch h) fun _ => ?_
  repeat (first|refine nt ?_|refine nq ?_|refine wq U ?_)
  refine wg U ?_
  refine wr U ((rm U).to (v' := (.int .i64 most)) rfl) rfl rfl ?_
  refine wr U (rd_lss U rfl rfl) rfl rfl ?_
  refine wr U ((ra U).to (v' := (.bool (decide (most < 0)))) rfl) rfl rfl ?_
  refine wz U ?_
  repeat (first|refine nt ?_|refine nq ?_|refine wq U ?_)
  refine wcd U (t := (decide (most < 0))) rfl (fun hm0 => ?_) fun hm0 => ?_
  · replace hm0 := of_decide_eq_true hm0
    refine wsk U ?_
    repeat (first|refine nt ?_|refine nq ?_)
    repeat (first|refine nt ?_|refine nq ?_|refine wq U ?_)
    refine wcd U (t := true) (by first|rfl | exact congrArg Value.bool (decide_eq_true hm0)) (fun _ => ?_) (fun h => nomatch h)
    repeat (first|refine nt ?_|refine nq ?_|refine wq U ?_)
    refine wg U ?_
    refine wr U ((ra U).to (v' := (.bool false)) rfl) rfl rfl ?_
    refine wz U ?_
    refine wc_ret U ?_
    repeat (first|refine ret1 ?_|refine ret2 ?_)
    exact end1 U (.inl rfl) rfl (v := (.bool false)) rfl ⟨⟨false, rfl, ⟨(fun h => by cases h), fun h => by have := h.1; omega⟩⟩, hs1, by omega⟩
  · replace hm0 := of_decide_eq_false hm0
    repeat (first|refine nt ?_|refine nq ?_|refine wq U ?_)
    refine wg U ?_
    refine wr U ((rm U).to (v' := (.int .i64 most)) rfl) rfl rfl ?_
    refine wr U (rd_gtr U rfl rfl) rfl rfl ?_
    refine wr U ((ra U).to (v' := (.bool (decide (1048576 < most)))) rfl) rfl rfl ?_
    refine wz U ?_
    repeat (first|refine nt ?_|refine nq ?_|refine wq U ?_)
    refine wcd U (t := (decide (1048576 < most))) rfl (fun hm1 => ?_) fun hm1 => ?_
    · replace hm1 := of_decide_eq_true hm1
      refine wsk U ?_
      repeat (first|refine nt ?_|refine nq ?_)
      repeat (first|refine nt ?_|refine nq ?_|refine wq U ?_)
      refine wcd U (t := true) (by first|rfl | exact congrArg Value.bool (decide_eq_true hm1)) (fun _ => ?_) (fun h => nomatch h)
      repeat (first|refine nt ?_|refine nq ?_|refine wq U ?_)
      refine wg U ?_
      refine wr U ((ra U).to (v' := (.bool false)) rfl) rfl rfl ?_
      refine wz U ?_
      refine wc_ret U ?_
      repeat (first|refine ret1 ?_|refine ret2 ?_)
      exact end1 U (.inl rfl) rfl (v := (.bool false)) rfl ⟨⟨false, rfl, ⟨(fun h => by cases h), fun h => by have := h.2.1; omega⟩⟩, hs1, by omega⟩
    · replace hm1 := of_decide_eq_false hm1
      repeat (first|refine nt ?_|refine nq ?_|refine wq U ?_)
      refine wg U ?_
      refine wr U (rd_load2 U el_24 rfl (v0 := (.int .i64 ((n : Nat) : Int))) (v1 := (.slice p E.length cap))  (by rw [rrw U (by omega) hx_6]; rfl) (by rw [rrw U (by omega) hx_6]; rfl)) rfl rfl ?_
      refine wr U ((rm U).to (v' := (.slice ip is.length icap)) rfl) rfl rfl ?_
      refine wl_op U rfl rfl (op_call U Tryz.f18 rfl rfl pf_18 (by kernel_rfl) (by kernel_rfl) ((s18 U n E _ _ is hg hl _ _ (hv.sub U hs1) (hi.sub U hs1)).mono U ?_))
      rintro _ H2 N2 ⟨⟨kk, rfl, hkk⟩, hs2, hN2⟩
      refine wr U (rd_neq U rfl rfl) rfl rfl ?_
      refine wr U ((ra U).to (v' := (.bool (decide (kk ≠ 0)))) rfl) rfl rfl ?_
      refine wz U ?_
      repeat (first|refine nt ?_|refine nq ?_)
      repeat (first|refine nt ?_|refine nq ?_|refine wq U ?_)
      refine wcd U (t := (decide (kk ≠ 0))) rfl (fun hk0 => ?_) fun hk0 => ?_
      · replace hk0 := of_decide_eq_true hk0
        repeat (first|refine nt ?_|refine nq ?_|refine wq U ?_)
        refine wg U ?_
        refine wr U ((ra U).to (v' := (.bool false)) rfl) rfl rfl ?_
        refine wz U ?_
        refine wc_ret U ?_
        repeat (first|refine ret1 ?_|refine ret2 ?_)
        exact end1 U (.inl rfl) rfl (v := (.bool false)) rfl ⟨⟨false, rfl, ⟨(fun h => by cases h), fun h => absurd (hkk.2 h.2.2.1) hk0⟩⟩, hs1.trans hs2, by omega⟩
      · replace hk0 := of_decide_eq_false hk0
        refine wsk U ?_
        repeat (first|refine nt ?_|refine nq ?_)
        have hkI : IndOk n E is := hkk.1 (by omega)
        have hb1 := Nat.mul_le_mul (show k + 1 ≤ 9 by omega) hl
        have hb2 : (((k : Nat) : Int) + 1) * ((is.length : Nat) : Int) = (((k + 1) * is.length : Nat) : Int) := by simp [Int.natCast_mul]
        obtain ⟨mo, rfl⟩ : ∃ m : Nat, most = ((m : Nat) : Int) := ⟨most.toNat, by omega⟩
        have hb3 := Nat.mul_le_mul hk8 (show mo ≤ 1048576 by omega)
        have hb4 : ((k : Nat) : Int) * ((mo : Nat) : Int) = ((k * mo : Nat) : Int) := by simp [Int.natCast_mul]
        repeat (first|refine nt ?_|refine nq ?_|refine wq U ?_)
        refine wg U ?_
        refine wr U ((rm U).to (v' := (.int .i64 ((k : Nat) : Int))) rfl) rfl rfl ?_
        refine wr U (rd_add U rfl rfl (by omega) (by omega)) rfl rfl ?_
        refine wr U ((rm U).to (v' := (.slice ip is.length icap)) rfl) rfl rfl ?_
        refine wr U ((rd_len' U sl_26 rfl).to (v' := (.int .i64 ((is.length : Nat) : Int))) rfl) rfl rfl ?_
        refine wr U (rd_mul U rfl rfl (by omega) (by omega)) rfl rfl ?_
        refine wr U ((rm U).to (v' := (.int .i64 ((k : Nat) : Int))) rfl) rfl rfl ?_
        refine wr U ((rm U).to (v' := (.int .i64 ((mo : Nat) : Int))) rfl) rfl rfl ?_
        refine wr U (rd_mul U rfl rfl (by omega) (by omega)) rfl rfl ?_
        refine wr U (rd_geq U rfl rfl) rfl rfl ?_
        refine wr U ((ra U).to (v' := (.bool (decide (((k : Nat) : Int) * ((mo : Nat) : Int) ≤ (((k : Nat) : Int) + 1) * ((is.length : Nat) : Int))))) rfl) rfl rfl ?_
        refine wz U ?_
        refine wc_ret U ?_
        repeat (first|refine ret1 ?_|refine ret2 ?_)
        exact end1 U (.inl rfl) rfl (v := (.bool (decide (((k : Nat) : Int) * ((mo : Nat) : Int) ≤ (((k : Nat) : Int) + 1) * ((is.length : Nat) : Int))))) rfl ⟨⟨_, rfl, by rw [decide_eq_true_iff]; exact ⟨fun h => ⟨by omega, by omega, hkI, h⟩, fun h => h.2.2.2⟩⟩, hs1.trans hs2, by omega⟩
end Go.Proofs.YtdmodppoellbkaaGreat
namespace Go.Proofs.YtdmodppoellbkaaGreat
open Go Go.RowKit
variable (U : Cx)
theorem s106 (xs : List Nat) (xv yv : Value) (hl : xs.length ≤ 100000) (H : Hp) (N : Nat) (hx : RdS U H xv 1 (nats xs)) (hy : RdS U H yv 1 (nats xs)) : Spec U 106 #[xv, yv] H N (fun v H' N' => v = .bool true ∧ H = H' ∧ N = N') := by
  obtain ⟨xp, xcap, rfl, hxc, hxp⟩ := hx.nums U
  obtain ⟨yp, ycap, rfl, hyc, hyp⟩ := hy.nums U
  refine spa U pf_106 (m := 26) rfl rfl (by simp) fun hBN hlt => ?_
  obtain ⟨J, hJ⟩ := Has.ex (T := argsT #[(.slice xp xs.length xcap), (.slice yp xs.length ycap)]) (l := [(0, (.slice xp xs.length xcap)), (1, (.slice yp xs.length ycap))]) ⟨rfl, rfl, trivial⟩
  rw [hJ]; clear hJ
  repeat (first|refine nt ?_|refine nq ?_|refine wq U ?_)
  refine wg U ?_
  refine wr U ((ra U).to (v' := (.bool false)) rfl) rfl rfl ?_
  refine wz U ?_
  repeat (first|refine nt ?_|refine nq ?_|refine wq U ?_)
  refine wg U ?_
  refine wr U ((rm U).to (v' := (.slice xp xs.length xcap)) rfl) rfl rfl ?_
  refine wr U ((rd_len' U sl_26 rfl).to (v' := (.int .i64 ((xs.length : Nat) : Int))) rfl) rfl rfl ?_
  refine wr U ((rm U).to (v' := (.slice yp xs.length ycap)) rfl) rfl rfl ?_
  refine wr U ((rd_len' U sl_26 rfl).to (v' := (.int .i64 ((xs.length : Nat) : Int))) rfl) rfl rfl ?_
  refine wr U ((rd_neq U rfl rfl).to (v' := (.bool false)) (congrArg Value.bool (decide_eq_false (by omega)))) rfl rfl ?_
  refine wz U ?_
  repeat (first|refine nt ?_|refine nq ?_|refine wq U ?_)
  refine wcd U (t := false) rfl (fun h => nomatch h) fun _ => ?_
  refine wsk U ?_
  repeat (first|refine nt ?_|refine nq ?_)
  repeat (first|refine nt ?_|refine nq ?_|refine wq U ?_)
  refine wg U ?_
  refine wr U ((rm U).to (v' := (.slice xp xs.length xcap)) rfl) rfl rfl ?_
  refine wr U ((rd_len' U sl_26 rfl).to (v' := (.int .i64 ((xs.length : Nat) : Int))) rfl) rfl rfl ?_
  refine wr U ((rm U).to (v' := (.int .i64 0)) rfl) rfl rfl ?_
  refine wz U ?_
  repeat (first|refine nt ?_|refine nq ?_|refine wq U ?_)
  refine wc_block U ?_
  refine wc_loop U (fun m T H' N' => ∃ (i : Nat), i ≤ xs.length ∧ m = xs.length - i ∧ Has T [(0, (.slice xp xs.length xcap)), (1, (.slice yp xs.length ycap)), (11, (.slice xp xs.length xcap)), (12, (.int .i64 ((xs.length : Nat) : Int))), (13, (.int .i64 ((i : Nat) : Int)))] ∧ H = H' ∧ N = N') xs.length ⟨0, Nat.zero_le _, rfl, ⟨rfl, rfl, rfl, rfl, rfl, trivial⟩, rfl, rfl⟩ ?_
  rintro m T _ _ ⟨i, hi, rfl, hT, rfl, rfl⟩
  obtain ⟨J, rfl⟩ := hT.ex
  repeat (first|refine nt ?_|refine nq ?_|refine wq U ?_)
  refine wg U ?_
  refine wr U (rd_lss U rfl rfl) rfl rfl ?_
  refine wz U ?_
  repeat (first|refine nt ?_|refine nq ?_|refine wq U ?_)
  refine wcd U (t := (decide (((i : Nat) : Int) < ((xs.length : Nat) : Int)))) rfl (fun hck => ?_) fun hck => ?_
  · replace hck := of_decide_eq_true hck
    refine wsk U ?_
    repeat (first|refine nt ?_|refine nq ?_)
    have hi1 : i < xs.length := by omega
    obtain ⟨xb, xo, rfl⟩ := hxp (by omega)
    obtain ⟨yb, yo, rfl⟩ := hyp (by omega)
    repeat (first|refine nt ?_|refine nq ?_|refine wq U ?_)
    refine wc_block U ?_
    repeat (first|refine nt ?_|refine nq ?_|refine wq U ?_)
    refine wg U ?_
    refine wr U ((rm U).to (v' := (.int .i64 ((i : Nat) : Int))) rfl) rfl rfl ?_
    refine wr U ((ra U).to (v' := (.int .i64 ((i : Nat) : Int))) rfl) rfl rfl ?_
    refine wz U ?_
    repeat (first|refine nt ?_|refine nq ?_|refine wq U ?_)
    refine wc_draw U H mixed ?_
    refine wh_rd U 0 rfl ((rm U).to (v' := (.slice (some ⟨xb, xo, none⟩) xs.length xcap)) rfl) (by kernel_rfl) (by kernel_rfl) (by kernel_rfl) rfl rfl (Sub.refl _) ?_
    refine wh_rd U 1 rfl ((rm U).to (v' := (.int .i64 ((i : Nat) : Int))) rfl) (by kernel_rfl) (by kernel_rfl) (by kernel_rfl) rfl rfl (Sub.refl _) ?_
    refine wh_rd U 2 rfl (rd_idx1 U (j := i) sl_26 rfl rfl hi1) (by kernel_rfl) (by kernel_rfl) (by kernel_rfl) rfl rfl (Sub.refl _) ?_
    refine wh_rd U 3 rfl (rl1 U el_3 rfl (v := (.int .i64 ((xs[i] : Nat) : Int))) (hx.n0 U hi1)) (by kernel_rfl) (by kernel_rfl) (by kernel_rfl) rfl rfl (Sub.refl _) ?_
    refine wh_rd U 4 rfl ((rm U).to (v' := (.slice (some ⟨yb, yo, none⟩) xs.length ycap)) rfl) (by kernel_rfl) (by kernel_rfl) (by kernel_rfl) rfl rfl (Sub.refl _) ?_
    refine wh_rd U 5 rfl ((rm U).to (v' := (.int .i64 ((i : Nat) : Int))) rfl) (by kernel_rfl) (by kernel_rfl) (by kernel_rfl) rfl rfl (Sub.refl _) ?_
    refine wh_rd U 6 rfl (rd_idx1 U (j := i) sl_26 rfl rfl hi1) (by kernel_rfl) (by kernel_rfl) (by kernel_rfl) rfl rfl (Sub.refl _) ?_
    refine wh_rd U 7 rfl (rl1 U el_3 rfl (v := (.int .i64 ((xs[i] : Nat) : Int))) (hy.n0 U hi1)) (by kernel_rfl) (by kernel_rfl) (by kernel_rfl) rfl rfl (Sub.refl _) ?_
    refine wh_rd U 8 rfl ((rd_neq U rfl rfl).to (v' := (.bool false)) (congrArg Value.bool (decide_eq_false (by omega)))) (by kernel_rfl) (by kernel_rfl) (by kernel_rfl) rfl rfl (Sub.refl _) ?_
    refine wh_done U (by kernel_rfl) ?_
    repeat (first|refine nt ?_|refine nq ?_|refine wq U ?_)
    refine wcd U (t := false) rfl (fun h => nomatch h) fun _ => ?_
    refine wsk U ?_
    repeat (first|refine nt ?_|refine nq ?_)
    repeat (first|refine nt ?_|refine nq ?_|refine wq U ?_)
    refine wg U ?_
    refine wr U (rd_add U rfl rfl (by omega) (by omega)) rfl rfl ?_
    refine wr U ((rm U).to (v' := (.int .i64 (((i : Nat) : Int) + 1))) rfl) rfl rfl ?_
    refine wz U ?_
    repeat (first|refine nt ?_|refine nq ?_)
    exact ⟨xs.length - (i + 1), by omega, i + 1, by omega, rfl, ⟨rfl, rfl, rfl, rfl, rfl, trivial⟩, rfl, rfl⟩
  · replace hck := of_decide_eq_false hck
    refine wc_exit U ?_
    repeat (first|refine xt ?_|refine xps (by decide) ?_)
    refine xbl ?_
    repeat (first|refine nt ?_|refine nq ?_)
    repeat (first|refine nt ?_|refine nq ?_|refine wq U ?_)
    refine wg U ?_
    refine wr U ((ra U).to (v' := (.bool true)) rfl) rfl rfl ?_
    refine wz U ?_
    refine wc_ret U ?_
    repeat (first|refine ret1 ?_|refine ret2 ?_)
    exact end1 U (.inl rfl) rfl (v := (.bool true)) rfl ⟨rfl, rfl, rfl⟩
theorem rot_sort {n : Nat} {E : List NE} {rs : List (List Nat)} (hg : GOk n E) (h : Rot n E rs) {v : Nat} (hv : v < n) {xs ys : List Nat} (hx : rs[v]? = some xs) (hy : (nearL n E)[v]? = some ys) : sortN xs = ys := by
  have hxg : rs.getD v [] = xs := by rw [List.getD_eq_getElem?_getD, hx]; rfl
  have hyg : (nearL n E).getD v [] = ys := by rw [List.getD_eq_getElem?_getD, hy]; rfl
  have hyn := near_nodup hg ys (List.mem_of_getElem? hy)
  have hys : ys.Pairwise (· < ·) := by
    rw [nearL, List.getElem?_map] at hy
    cases h0 : (nearAcc n E)[v]? with
    | none => rw [h0] at hy; cases hy
    | some zs =>
      rw [h0] at hy
      simp only [Option.map_some, Option.some.injEq] at hy
      subst hy
      exact sortN_strict ((sortN_perm zs).nodup_iff.1 hyn)
  refine sorted_ext (sortN_strict (by have := h.nd v; rwa [hxg] at this)) hys fun x => ?_
  rw [mem_sortN, ← hyg, nearL_mem hg, ← h.mem v x, hxg]
theorem rot_len {n : Nat} {E : List NE} {rs : List (List Nat)} (hg : GOk n E) (h : Rot n E rs) {v : Nat} {xs : List Nat} (hx : rs[v]? = some xs) : xs.length ≤ n ∧ xs.Nodup := by
  have hxg : rs.getD v [] = xs := by rw [List.getD_eq_getElem?_getD, hx]; rfl
  have h1 := h.nd v
  rw [hxg] at h1
  refine ⟨nodup_len n xs h1 fun y hy => ?_, h1⟩
  have := (h.mem v y).1 (by rw [hxg]; exact hy)
  exact (hg.adj_lt this).2.1
theorem s76 (n : Nat) (E : List NE) (sv rv : Value) (rs : List (List Nat)) (hg : GOk n E) (hR : Rot n E rs) (H : Hp) (N : Nat) (hv : RdS U H sv 3 (necs E)) (hr : Rd2 U H rv rs) : Spec U 76 #[(.agg #[(.int .i64 ((n : Nat) : Int)), sv]), rv] H N (fun v H' N' => v = .int .i64 0 ∧ Sub H H' ∧ N ≤ N') := by
  obtain ⟨p, cap, rfl, hc, hp⟩ := hv.edges U
  obtain ⟨rp, rcap, ru, rfl, hrp, hru, hrv⟩ := hr.open U
  refine spa U pf_76 (m := 33) rfl rfl (by simp) fun hBN hlt => ?_
  obtain ⟨J, hJ⟩ := Has.ex (T := argsT #[(.agg #[(.int .i64 ((n : Nat) : Int)), (.slice p E.length cap)]), (.slice rp rs.length rcap)]) (l := [(0, (.agg #[(.int .i64 ((n : Nat) : Int)), (.slice p E.length cap)])), (1, (.slice rp rs.length rcap))]) ⟨rfl, rfl, trivial⟩
  rw [hJ]; clear hJ
  have hn := hg.hn; have hrl := hR.len; have hrul := hrv.1
  repeat (first|refine nt ?_|refine nq ?_|refine wq U ?_)
  refine wg U ?_
  refine wl_op U rfl rfl (op_box U rfl rfl ?_)
  refine wr U ((ra U).to (v' := (.int .i64 0)) rfl) rfl rfl ?_
  refine wz U ?_
  repeat (first|refine nt ?_|refine nq ?_)
  refine wc_gen U (fun R => R N = some (.row 24 0 [(.int .i64 ((n : Nat) : Int)), (.slice p E.length cap)] 2) ∧ Sub _ R) ⟨(by first|(rw [hsy]; done) | (rw [hsy]; rfl)), ((Sub.refl _).hset (fresh hlt (by omega)))⟩ ?_
  rintro H1 ⟨hx_1, hs1⟩ hBNH1 hltH1
  repeat (first|refine nt ?_|refine nq ?_|refine wq U ?_)
  refine wg U ?_
  refine wr U (rd_load2 U el_24 rfl (v0 := (.int .i64 ((n : Nat) : Int))) (v1 := (.slice p E.length cap))  (by rw [rrw U (by omega) hx_1]; rfl) (by rw [rrw U (by omega) hx_1]; rfl)) rfl rfl ?_
  refine wl_op U rfl rfl (op_call U Tryz.f32 rfl rfl pf_32 (by kernel_rfl) (by kernel_rfl) ((s32 U n E _ hg _ _ (hv.sub U hs1)).mono U ?_))
  rintro _ H2 N2 ⟨rfl, hs2, hN2⟩
  have hx_2 := hs2 N _ hx_1
  have hs_3 := (Sub.refl _).trans hs2
  refine wr U ((rd_neq U rfl rfl).to (v' := (.bool false)) rfl) rfl rfl ?_
  refine wz U ?_
  repeat (first|refine nt ?_|refine nq ?_|refine wq U ?_)
  refine wcd U (t := false) rfl (fun h => nomatch h) fun _ => ?_
  refine wsk U ?_
  repeat (first|refine nt ?_|refine nq ?_)
  have hs12 := hs1.trans hs2
  refine wc_own U fun hBN2 hlt2 => ?_
  repeat (first|refine nt ?_|refine nq ?_|refine wq U ?_)
  refine wg U ?_
  refine wr U ((rm U).to (v' := (.slice rp rs.length rcap)) rfl) rfl rfl ?_
  refine wr U ((rd_len' U sl_25 rfl).to (v' := (.int .i64 ((rs.length : Nat) : Int))) rfl) rfl rfl ?_
  refine wr U ((rfa U fb_24_0 rfl).to (v' := (.pointer (some ⟨N, 0, none⟩))) rfl) rfl rfl ?_
  refine wr U (rl1 U el_3 rfl (v := (.int .i64 ((n : Nat) : Int))) (by rw [rrw U (by omega) hx_2]; rfl)) rfl rfl ?_
  refine wr U ((rd_neq U rfl rfl).to (v' := (.bool false)) (congrArg Value.bool (decide_eq_false (by omega)))) rfl rfl ?_
  refine wz U ?_
  repeat (first|refine nt ?_|refine nq ?_|refine wq U ?_)
  refine wcd U (t := false) rfl (fun h => nomatch h) fun _ => ?_
  refine wsk U ?_
  repeat (first|refine nt ?_|refine nq ?_)
  repeat (first|refine nt ?_|refine nq ?_|refine wq U ?_)
  refine wg U ?_
  refine wr U (rd_load2 U el_24 rfl (v0 := (.int .i64 ((n : Nat) : Int))) (v1 := (.slice p E.length cap))  (by rw [rrw U (by omega) hx_2]; rfl) (by rw [rrw U (by omega) hx_2]; rfl)) rfl rfl ?_
  refine wl_op U rfl rfl (op_call U Tryz.f61 rfl rfl pf_61 (by kernel_rfl) (by kernel_rfl) ((s61 U n E _ hg _ _ (hv.sub U hs12)).mono U ?_))
  rintro _ H3 N3 ⟨hnr, hs3, hN3⟩
  obtain ⟨np, ncap, nu, rfl, hnp, hnu, hnv⟩ := hnr.open U
  refine wr U ((rd_len' U sl_25 rfl).to (v' := (.int .i64 (((nearL n E).length : Nat) : Int))) rfl) rfl rfl ?_
  refine wr U ((rm U).to (v' := (.int .i64 0)) rfl) rfl rfl ?_
  refine wz U ?_
  have hs13 := hs12.trans hs3
  have hnl := nearL_length n E
  have hnul := hnv.1
  repeat (first|refine nt ?_|refine nq ?_|refine wq U ?_)
  refine wc_block U ?_
  refine wc_loop U (fun m T H' N' => ∃ (i : Nat), i ≤ n ∧ m = n - i ∧ Has T [(1, (.slice rp rs.length rcap)), (16, (.slice np ((nearL n E).length) ncap)), (17, (.int .i64 (((nearL n E).length : Nat) : Int))), (18, (.int .i64 ((i : Nat) : Int)))] ∧ Sub H3 H' ∧ N3 ≤ N') n ⟨0, Nat.zero_le _, rfl, ⟨rfl, rfl, rfl, rfl, trivial⟩, Sub.refl _, Nat.le_refl _⟩ ?_
  rintro m T H4 N4 ⟨i, hi, rfl, hT, hs4, hN4⟩
  obtain ⟨J, rfl⟩ := hT.ex
  refine wc_own U fun hBN4 hlt4 => ?_
  repeat (first|refine nt ?_|refine nq ?_|refine wq U ?_)
  refine wg U ?_
  refine wr U (rd_lss U rfl rfl) rfl rfl ?_
  refine wz U ?_
  repeat (first|refine nt ?_|refine nq ?_|refine wq U ?_)
  refine wcd U (t := (decide (((i : Nat) : Int) < (((nearL n E).length : Nat) : Int)))) rfl (fun hck => ?_) fun hck => ?_
  · replace hck := of_decide_eq_true hck
    refine wsk U ?_
    repeat (first|refine nt ?_|refine nq ?_)
    have hi1 : i < n := by omega
    obtain ⟨nb, no, rfl⟩ := hnp (by omega)
    obtain ⟨rb, ro, rfl⟩ := hrp (by omega)
    repeat (first|refine nt ?_|refine nq ?_|refine wq U ?_)
    refine wc_block U ?_
    obtain ⟨xu, hxu⟩ := get_ex (l := ru) (i := i) (by omega)
    obtain ⟨xs, hxs⟩ := get_ex (l := rs) (i := i) (by omega)
    obtain ⟨yu, hyu⟩ := get_ex (l := nu) (i := i) (by omega)
    obtain ⟨ys, hys⟩ := get_ex (l := nearL n E) (i := i) (by omega)
    have hxr := hrv.2 i xu xs hxu hxs; have hyr := hnv.2 i yu ys hyu hys; have hse := rot_sort hg hR hi1 hxs hys; have hxl := rot_len hg hR hxs
    have hs34 := hs13.trans hs4
    have hx1 : xu.cells.toList = [xu] := by obtain ⟨p, q, cap, h, _⟩ := hxr; rw [h]; rfl
    repeat (first|refine nt ?_|refine nq ?_|refine wq U ?_)
    refine wg U ?_
    refine wr U ((rm U).to (v' := (.int .i64 ((i : Nat) : Int))) rfl) rfl rfl ?_
    refine wr U (rd_idx1 U (j := i) sl_25 rfl rfl (by omega)) rfl rfl ?_
    refine wr U (rl1 U el_26 rfl (v := yu) ((hnu.sub U hs4).get U hyu)) rfl rfl ?_
    refine wr U ((ra U).to (v' := (.int .i64 ((i : Nat) : Int))) rfl) rfl rfl ?_
    refine wr U ((ra U).to (v' := yu) rfl) rfl rfl ?_
    refine wz U ?_
    have hlen : (sortN xs).length ≤ 100000 := by rw [sortN_length]; omega
    repeat (first|refine nt ?_|refine nq ?_|refine wq U ?_)
    refine wg U ?_
    refine wr U ((rm U).to (v' := (.slice (some ⟨rb, ro, none⟩) rs.length rcap)) rfl) rfl rfl ?_
    refine wr U ((rm U).to (v' := (.int .i64 ((i : Nat) : Int))) rfl) rfl rfl ?_
    refine wr U (rd_idx1 U (j := i) sl_25 rfl rfl (by omega)) rfl rfl ?_
    refine wr U (rl1 U el_26 rfl (v := xu) ((hru.sub U hs34).get U hxu)) rfl rfl ?_
    refine wl_op U rfl rfl (op_call U Tryz.f94 rfl rfl pf_94 (by kernel_rfl) (by kernel_rfl) ((s94 U xu hx1 H4 N4).mono U ?_))
    rintro _ _ _ ⟨rfl, rfl, rfl⟩
    refine wl_op U rfl rfl (op_call U Tryz.f93 rfl rfl pf_93 (by kernel_rfl) (by kernel_rfl) ((s93 U N4 xu xs (by omega) _ _ hsy ((hxr.sub U hs34).sub U ((Sub.refl _).hset (fresh hlt4 (by omega))))).mono U ?_))
    rintro av H5 N5 ⟨hav, hab, hs5, hN5⟩
    refine wl_own U fun hBN5 hlt5 => ?_
    refine wr U ((rm U).to (v' := yu) rfl) rfl rfl ?_
    refine wl_op U rfl rfl (op_call U Tryz.f106 rfl rfl pf_106 (by kernel_rfl) (by kernel_rfl) ((s106 U (sortN xs) av yu hlen H5 N5 (hav.rds U (fun b o h => (hlt5 b o h).1)) (by rw [hse]; exact ((hyr.sub U hs4).sub U ((Sub.refl _).hset (fresh hlt4 (by omega)))).sub U hs5)).mono U ?_))
    rintro _ _ _ ⟨rfl, rfl, rfl⟩
    refine wr U ((rd_not U rfl).to (v' := (.bool false)) rfl) rfl rfl ?_
    refine wz U ?_
    repeat (first|refine nt ?_|refine nq ?_|refine wq U ?_)
    refine wcd U (t := false) rfl (fun h => nomatch h) fun _ => ?_
    refine wsk U ?_
    repeat (first|refine nt ?_|refine nq ?_)
    repeat (first|refine nt ?_|refine nq ?_|refine wq U ?_)
    refine wg U ?_
    refine wr U (rd_add U rfl rfl (by omega) (by omega)) rfl rfl ?_
    refine wr U ((rm U).to (v' := (.int .i64 (((i : Nat) : Int) + 1))) rfl) rfl rfl ?_
    refine wz U ?_
    repeat (first|refine nt ?_|refine nq ?_)
    exact ⟨n - (i + 1), by omega, i + 1, by omega, rfl, ⟨rfl, rfl, rfl, rfl, trivial⟩, (hs4.hset (fresh (M := 0) (N := N4) (fun b o h => ⟨Nat.zero_le _, (hlt4 b o (hs4 b o h)).2⟩) (by omega))).trans hs5, by omega⟩
  · replace hck := of_decide_eq_false hck
    refine wc_exit U ?_
    repeat (first|refine xt ?_|refine xps (by decide) ?_)
    refine xbl ?_
    repeat (first|refine nt ?_|refine nq ?_)
    repeat (first|refine nt ?_|refine nq ?_|refine wq U ?_)
    refine wg U ?_
    refine wr U ((ra U).to (v' := (.int .i64 0)) rfl) rfl rfl ?_
    refine wz U ?_
    refine wc_ret U ?_
    repeat (first|refine ret1 ?_|refine ret2 ?_)
    exact end1 U (.inl rfl) rfl (v := (.int .i64 0)) rfl ⟨rfl, hs13.trans hs4, by omega⟩
theorem putK_none {κ : Type} [DecidableEq κ] {m : List (κ × Value)} {k : κ} {v : Value} (h : look m k = none) : put m k v = m ++ [(k, v)] := by
  induction m with
  | nil => rfl
  | cons q m ih =>
    obtain ⟨k', u⟩ := q
    simp only [look, put] at h ⊢
    split at h
    · cases h
    · rename_i hk; rw [if_neg hk, ih h]; rfl
theorem nD_inj {a b : ND} (h : nD a = nD b) : a = b := by
  obtain ⟨a1, a2⟩ := a; obtain ⟨b1, b2⟩ := b
  simp only [nD, Prod.mk.injEq] at h ⊢; omega
/-- Darts, each with a value. -/
def dm (f : ND → Value) (ds : List ND) : List ((Int × Int) × Value) := ds.map fun d => (nD d, f d)
theorem look_dm (f : ND → Value) (ds : List ND) (d : ND) : look (dm f ds) (nD d) = if d ∈ ds then some (f d) else none := by
  induction ds with
  | nil => simp [dm, look]
  | cons x ds ih =>
    by_cases h : d = x
    · subst h; simp [dm, look]
    · have h' : ¬ nD d = nD x := fun e => h (nD_inj e)
      simp only [dm, List.map_cons, look, if_neg h'] at ih ⊢
      rw [ih]; simp [h]
theorem put_dm (f : ND → Value) {ds : List ND} {d : ND} (h : d ∉ ds) : put (dm f ds) (nD d) (f d) = dm f (ds ++ [d]) := by
  rw [putK_none (by rw [look_dm, if_neg h])]; simp [dm]
def nxV (rs : List (List Nat)) (d : ND) : Value := encD (nD (nxtD rs d))
theorem nxV_at {rs : List (List Nat)} {v : Nat} {xs : List Nat} (hx : rs[v]? = some xs) (hn : xs.Nodup) {i : Nat} (hi : i < xs.length) (hl : (i + 1) % xs.length < xs.length) : nxV rs (xs[i], v) = .agg #[.int .i64 ((v : Nat) : Int), .int .i64 ((xs[(i + 1) % xs.length] : Nat) : Int)] := by
  have hxg : rs.getD v [] = xs := by rw [List.getD_eq_getElem?_getD, hx]; rfl
  simp only [nxV, nxtD, hxg, idxOf_get hn hi, encD, nD]
  rw [List.getD_eq_getElem?_getD, List.getElem?_eq_getElem hl]; rfl
theorem s77 (n : Nat) (E : List NE) (rv : Value) (rs : List (List Nat)) (hg : GOk n E) (hR : Rot n E rs) (H : Hp) (N : Nat) (hr : Rd2 U H rv rs) : Spec U 77 #[rv] H N (fun v H' N' => v = .map (some N) ∧ (∃ ds : List ND, H' N = some (.map (encM encD (dm (nxV rs) ds))) ∧ ∀ d : ND, d ∈ ds ↔ adj E d.1 d.2) ∧ Sub H H' ∧ N' = N + 1) := by
  obtain ⟨rp, rcap, ru, rfl, hrp, hru, hrv⟩ := hr.open U
  refine spa U pf_77 (m := 40) rfl rfl (by simp) fun hBN hlt => ?_
  obtain ⟨J, hJ⟩ := Has.ex (T := argsT #[(.slice rp rs.length rcap)]) (l := [(0, (.slice rp rs.length rcap))]) ⟨rfl, trivial⟩
  rw [hJ]; clear hJ
  have hn := hg.hn; have hrl := hR.len; have hrul := hrv.1
  repeat (first|refine nt ?_|refine nq ?_|refine wq U ?_)
  refine wg U ?_
  refine wr U ((ra U).to (v' := (.map none)) rfl) rfl rfl ?_
  refine wz U ?_
  repeat (first|refine nt ?_|refine nq ?_|refine wq U ?_)
  refine wg U ?_
  refine wl_op U rfl rfl (op_makeMap U ?_)
  refine wr U ((ra U).to (v' := (.map (some N))) rfl) rfl rfl ?_
  refine wz U ?_
  repeat (first|refine nt ?_|refine nq ?_)
  refine wc_gen U (fun R => R N = some (.map (encM encD (dm (nxV rs) []))) ∧ Sub H R) ⟨hsy, (Sub.refl H).hset (fresh hlt (by omega))⟩ ?_
  rintro H1 ⟨hm1, hs1⟩ hBN1 hlt1
  repeat (first|refine nt ?_|refine nq ?_|refine wq U ?_)
  refine wg U ?_
  refine wr U ((rm U).to (v' := (.slice rp rs.length rcap)) rfl) rfl rfl ?_
  refine wr U ((rd_len' U sl_25 rfl).to (v' := (.int .i64 ((rs.length : Nat) : Int))) rfl) rfl rfl ?_
  refine wr U ((rm U).to (v' := (.int .i64 0)) rfl) rfl rfl ?_
  refine wz U ?_
  repeat (first|refine nt ?_|refine nq ?_|refine wq U ?_)
  refine wc_block U ?_
  refine wc_loop U (fun m T H' N' => ∃ (i : Nat) (ds : List ND), i ≤ rs.length ∧ m = rs.length - i ∧ Has T [(3, (.map (some N))), (9, (.slice rp rs.length rcap)), (10, (.int .i64 ((rs.length : Nat) : Int))), (11, (.int .i64 ((i : Nat) : Int)))] ∧ Sub H H' ∧ N + 1 = N' ∧ H' N = some (.map (encM encD (dm (nxV rs) ds))) ∧ (∀ d : ND, d ∈ ds ↔ d.2 < i ∧ d.1 ∈ rs.getD d.2 [])) rs.length ⟨0, [], Nat.zero_le _, rfl, ⟨rfl, rfl, rfl, rfl, trivial⟩, hs1, rfl, hm1, by simp⟩ ?_
  rintro m T H2 _ ⟨i, ds, hi, rfl, hT, hs2, rfl, hm2, hds⟩
  obtain ⟨J, rfl⟩ := hT.ex
  repeat (first|refine nt ?_|refine nq ?_|refine wq U ?_)
  refine wg U ?_
  refine wr U (rd_lss U rfl rfl) rfl rfl ?_
  refine wz U ?_
  repeat (first|refine nt ?_|refine nq ?_|refine wq U ?_)
  refine wcd U (t := (decide (((i : Nat) : Int) < ((rs.length : Nat) : Int)))) rfl (fun hck => ?_) fun hck => ?_
  · replace hck := of_decide_eq_true hck
    refine wsk U ?_
    repeat (first|refine nt ?_|refine nq ?_)
    have hi1 : i < rs.length := by omega
    obtain ⟨rb, ro, rfl⟩ := hrp (by omega)
    repeat (first|refine nt ?_|refine nq ?_|refine wq U ?_)
    refine wc_block U ?_
    obtain ⟨xu, hxu⟩ := get_ex (l := ru) (i := i) (by omega)
    obtain ⟨xs, hxs⟩ := get_ex (l := rs) (i := i) (by omega)
    have hxr := hrv.2 i xu xs hxu hxs
    obtain ⟨xp, xcap, rfl, hxc, hxp⟩ := hxr.nums U
    obtain ⟨hxl, hxn⟩ := rot_len hg hR hxs
    have hxg : rs.getD i [] = xs := by rw [List.getD_eq_getElem?_getD, hxs]; rfl
    repeat (first|refine nt ?_|refine nq ?_|refine wq U ?_)
    refine wg U ?_
    refine wr U ((rm U).to (v' := (.int .i64 ((i : Nat) : Int))) rfl) rfl rfl ?_
    refine wr U (rd_idx1 U (j := i) sl_25 rfl rfl (by omega)) rfl rfl ?_
    refine wr U (rl1 U el_26 rfl (v := (.slice xp xs.length xcap)) ((hru.sub U hs2).get U hxu)) rfl rfl ?_
    refine wr U ((ra U).to (v' := (.int .i64 ((i : Nat) : Int))) rfl) rfl rfl ?_
    refine wr U ((ra U).to (v' := (.slice xp xs.length xcap)) rfl) rfl rfl ?_
    refine wz U ?_
    repeat (first|refine nt ?_|refine nq ?_|refine wq U ?_)
    refine wg U ?_
    refine wr U ((rm U).to (v' := (.slice xp xs.length xcap)) rfl) rfl rfl ?_
    refine wr U ((rd_len' U sl_26 rfl).to (v' := (.int .i64 ((xs.length : Nat) : Int))) rfl) rfl rfl ?_
    refine wr U ((rm U).to (v' := (.int .i64 0)) rfl) rfl rfl ?_
    refine wz U ?_
    repeat (first|refine nt ?_|refine nq ?_|refine wq U ?_)
    refine wc_block U ?_
    refine wc_loop U (fun m T H' N' => ∃ (j : Nat) (ds : List ND), j ≤ xs.length ∧ m = xs.length - j ∧ Has T [(3, (.map (some N))), (9, (.slice (some ⟨rb, ro, none⟩) rs.length rcap)), (10, (.int .i64 ((rs.length : Nat) : Int))), (11, (.int .i64 ((i : Nat) : Int))), (4, (.int .i64 ((i : Nat) : Int))), (5, (.slice xp xs.length xcap)), (16, (.slice xp xs.length xcap)), (17, (.int .i64 ((xs.length : Nat) : Int))), (18, (.int .i64 ((j : Nat) : Int)))] ∧ Sub H H' ∧ N + 1 = N' ∧ H' N = some (.map (encM encD (dm (nxV rs) ds))) ∧ (∀ d : ND, d ∈ ds ↔ (d.2 < i ∧ d.1 ∈ rs.getD d.2 []) ∨ (d.2 = i ∧ d.1 ∈ xs.take j))) xs.length ⟨0, ds, Nat.zero_le _, rfl, ⟨rfl, rfl, rfl, rfl, rfl, rfl, rfl, rfl, rfl, trivial⟩, hs2, rfl, hm2, by simpa using hds⟩ ?_
    clear hs2 hm2 hds
    rintro m T H3 _ ⟨j, ds, hj, rfl, hT, hs3, rfl, hm3, hds⟩
    obtain ⟨J3, rfl⟩ := hT.ex
    repeat (first|refine nt ?_|refine nq ?_|refine wq U ?_)
    refine wg U ?_
    refine wr U (rd_lss U rfl rfl) rfl rfl ?_
    refine wz U ?_
    repeat (first|refine nt ?_|refine nq ?_|refine wq U ?_)
    refine wcd U (t := (decide (((j : Nat) : Int) < ((xs.length : Nat) : Int)))) rfl (fun hcj => ?_) fun hcj => ?_
    · replace hcj := of_decide_eq_true hcj
      refine wsk U ?_
      repeat (first|refine nt ?_|refine nq ?_)
      have hj1 : j < xs.length := by omega
      have hmod : (j + 1) % xs.length < xs.length := Nat.mod_lt _ (by omega)
      obtain ⟨xb, xo, rfl⟩ := hxp (by omega)
      repeat (first|refine nt ?_|refine nq ?_|refine wq U ?_)
      refine wc_block U ?_
      have hx3 := hxr.sub U hs3
      repeat (first|refine nt ?_|refine nq ?_|refine wq U ?_)
      refine wg U ?_
      refine wr U ((rm U).to (v' := (.int .i64 ((j : Nat) : Int))) rfl) rfl rfl ?_
      refine wr U (rd_idx1 U (j := j) sl_26 rfl rfl (by omega)) rfl rfl ?_
      refine wr U (rl1 U el_3 rfl (v := (.int .i64 ((xs[j] : Nat) : Int))) (hx3.n0 U hj1)) rfl rfl ?_
      refine wr U ((ra U).to (v' := (.int .i64 ((j : Nat) : Int))) rfl) rfl rfl ?_
      refine wr U ((ra U).to (v' := (.int .i64 ((xs[j] : Nat) : Int))) rfl) rfl rfl ?_
      refine wz U ?_
      repeat (first|refine nt ?_|refine nq ?_|refine wq U ?_)
      refine wg U ?_
      refine wr U ((rm U).to (v' := (.map (some N))) rfl) rfl rfl ?_
      refine wr U ((rm U).to (v' := (.int .i64 ((xs[j] : Nat) : Int))) rfl) rfl rfl ?_
      refine wr U ((rm U).to (v' := (.int .i64 ((i : Nat) : Int))) rfl) rfl rfl ?_
      refine wr U (rd_build U (cells := #[(.int .i64 ((xs[j] : Nat) : Int)), (.int .i64 ((i : Nat) : Int))]) (by unfold P; kernel_rfl)) rfl rfl ?_
      refine wr U ((rm U).to (v' := (.int .i64 ((i : Nat) : Int))) rfl) rfl rfl ?_
      refine wr U ((rm U).to (v' := (.slice (some ⟨xb, xo, none⟩) xs.length xcap)) rfl) rfl rfl ?_
      refine wr U ((rm U).to (v' := (.int .i64 ((j : Nat) : Int))) rfl) rfl rfl ?_
      refine wr U (rd_add U rfl rfl (by omega) (by omega)) rfl rfl ?_
      refine wr U ((rm U).to (v' := (.slice (some ⟨xb, xo, none⟩) xs.length xcap)) rfl) rfl rfl ?_
      refine wr U ((rd_len' U sl_26 rfl).to (v' := (.int .i64 ((xs.length : Nat) : Int))) rfl) rfl rfl ?_
      refine wr U ((rd_rem U rfl rfl (by omega)).to (v' := (.int .i64 (((j + 1) % xs.length : Nat) : Int))) (congrArg (Value.int .i64) (by rw [show (((j : Nat) : Int) + 1) = ((j + 1 : Nat) : Int) by omega, ← Int.ofNat_tmod]))) rfl rfl ?_
      refine wr U (rd_idx1 U (j := (j + 1) % xs.length) sl_26 rfl rfl hmod) rfl rfl ?_
      refine wr U (rl1 U el_3 rfl (v := (.int .i64 ((xs[(j + 1) % xs.length] : Nat) : Int))) (hx3.n0 U hmod)) rfl rfl ?_
      refine wr U (rd_build U (cells := #[(.int .i64 ((i : Nat) : Int)), (.int .i64 ((xs[(j + 1) % xs.length] : Nat) : Int))]) (by unfold P; kernel_rfl)) rfl rfl ?_
      have hnew : (xs[j], i) ∉ ds := fun hm => by
        rcases (hds _).1 hm with ⟨h1, _⟩ | ⟨_, h1⟩
        · simp at h1
        · obtain ⟨q, hq, he⟩ := List.mem_iff_getElem.1 h1
          rw [List.length_take] at hq
          rw [List.getElem_take] at he
          have := (List.getElem_inj hxn).1 he
          omega
      refine wl_op0 U rfl (op_mapUpdate U (v := nxV rs (xs[j], i)) (k := nD (xs[j], i)) (m := dm (nxV rs) ds) um_123 key_dart rfl rfl (by rw [nxV_at hxs hxn hj1 hmod]; rfl) hm3 ?_)
      refine wz U ?_
      repeat (first|refine nt ?_|refine nq ?_)
      rw [put_dm (nxV rs) hnew]
      repeat (first|refine nt ?_|refine nq ?_|refine wq U ?_)
      refine wg U ?_
      refine wr U (rd_add U rfl rfl (by omega) (by omega)) rfl rfl ?_
      refine wr U ((rm U).to (v' := (.int .i64 (((j : Nat) : Int) + 1))) rfl) rfl rfl ?_
      refine wz U ?_
      repeat (first|refine nt ?_|refine nq ?_)
      refine ⟨xs.length - (j + 1), by omega, j + 1, ds ++ [(xs[j], i)], by omega, rfl, ⟨rfl, rfl, rfl, rfl, rfl, rfl, rfl, rfl, rfl, trivial⟩, hs3.hset (fresh hlt (by omega)), rfl, hsy, fun d => ?_⟩
      rw [List.mem_append, List.mem_singleton, hds d, List.take_succ_eq_append_getElem hj1, List.mem_append, List.mem_singleton]
      obtain ⟨d1, d2⟩ := d
      simp only [Prod.mk.injEq]
      constructor
      · rintro ((h | h) | ⟨h1, h2⟩)
        · exact .inl h
        · exact .inr ⟨h.1, .inl h.2⟩
        · exact .inr ⟨h2, .inr h1⟩
      · rintro (h | ⟨h1, h2 | h2⟩)
        · exact .inl (.inl h)
        · exact .inl (.inr ⟨h1, h2⟩)
        · exact .inr ⟨h2, h1⟩
    · replace hcj := of_decide_eq_false hcj
      refine wc_exit U ?_
      repeat (first|refine xt ?_|refine xps (by decide) ?_)
      refine xbl ?_
      repeat (first|refine nt ?_|refine nq ?_)
      rw [List.take_of_length_le (by omega)] at hds
      repeat (first|refine nt ?_|refine nq ?_|refine wq U ?_)
      refine wg U ?_
      refine wr U (rd_add U rfl rfl (by omega) (by omega)) rfl rfl ?_
      refine wr U ((rm U).to (v' := (.int .i64 (((i : Nat) : Int) + 1))) rfl) rfl rfl ?_
      refine wz U ?_
      repeat (first|refine nt ?_|refine nq ?_)
      refine ⟨rs.length - (i + 1), by omega, i + 1, ds, by omega, rfl, ⟨rfl, rfl, rfl, rfl, trivial⟩, hs3, rfl, hm3, fun d => ?_⟩
      rw [hds d]
      constructor
      · rintro (h | ⟨h1, h2⟩)
        · exact ⟨by omega, h.2⟩
        · exact ⟨by omega, by rw [h1, hxg]; exact h2⟩
      · rintro ⟨h1, h2⟩
        rcases Nat.lt_or_ge d.2 i with h3 | h3
        · exact .inl ⟨h3, h2⟩
        · have h4 : d.2 = i := by omega
          exact .inr ⟨h4, by rw [h4, hxg] at h2; exact h2⟩
  · replace hck := of_decide_eq_false hck
    refine wc_exit U ?_
    repeat (first|refine xt ?_|refine xps (by decide) ?_)
    refine xbl ?_
    repeat (first|refine nt ?_|refine nq ?_)
    repeat (first|refine nt ?_|refine nq ?_|refine wq U ?_)
    refine wg U ?_
    refine wr U ((rm U).to (v' := (.map (some N))) rfl) rfl rfl ?_
    refine wr U ((ra U).to (v' := (.map (some N))) rfl) rfl rfl ?_
    refine wz U ?_
    refine wc_ret U ?_
    repeat (first|refine ret1 ?_|refine ret2 ?_)
    exact end1 U (.inl rfl) rfl (v := (.map (some N))) rfl ⟨rfl, ⟨ds, hm2, fun d => by rw [hds d, hR.mem]; exact ⟨fun h => h.2.symm, fun h => ⟨by have := (hg.adj_lt h).2.1; omega, h.symm⟩⟩⟩, hs2, rfl⟩
end Go.Proofs.YtdmodppoellbkaaGreat
