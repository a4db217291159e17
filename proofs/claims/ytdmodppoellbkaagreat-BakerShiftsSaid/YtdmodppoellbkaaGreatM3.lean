/-
Pieces, fields, and plain laws on elimination and faces.
-/
import Derived.Test.YtdmodppoellbkaaGreatM2
import Derived.Shelf.SlSortCmp.NoneTotal
set_option linter.unusedVariables false
set_option linter.unusedSimpArgs false
namespace Go.Proofs.YtdmodppoellbkaaGreat
open Go Go.RowKit
variable (U : Cx)
def encE (e : NE) : List Value := [.int .i64 ((e.1 : Nat) : Int), .int .i64 ((e.2.1 : Nat) : Int), .int .i64 e.2.2]
/-- A dart: from, to. -/
abbrev ND := Nat × Nat
def encN (d : ND) : List Value := [.int .i64 ((d.1 : Nat) : Int), .int .i64 ((d.2 : Nat) : Int)]
def dcs : List ND → List Value
  | [] => []
  | d :: l => .int .i64 ((d.1 : Nat) : Int) :: .int .i64 ((d.2 : Nat) : Int) :: dcs l
theorem dcs_length (l : List ND) : (dcs l).length = l.length * 2 := by
  induction l with
  | nil => rfl
  | cons e l ih => simp only [dcs, List.length_cons, ih]; omega
theorem dcs_append (l m : List ND) : dcs (l ++ m) = dcs l ++ dcs m := by
  induction l with
  | nil => rfl
  | cons e l ih => simp [dcs, ih]
theorem dcs_one (l : List ND) : ∀ u ∈ dcs l, u.oneCell' = true := by
  induction l with
  | nil => intro u hu; simp [dcs] at hu
  | cons e l ih => intro u hu; simp only [dcs, List.mem_cons] at hu; rcases hu with rfl | rfl | hu <;> first|rfl | exact ih u hu
theorem dcs_get (l : List ND) : ∀ {j : Nat} (h : j < l.length), (dcs l)[j * 2]? = some (.int .i64 ((l[j].1 : Nat) : Int)) ∧ (dcs l)[j * 2 + 1]? = some (.int .i64 ((l[j].2 : Nat) : Int)) := by
  induction l with
  | nil => intro j h; simp at h
  | cons e l ih =>
    intro j h
    cases j with
    | zero => simp [dcs]
    | succ j =>
      have := ih (j := j) (by simpa using h)
      rw [show (j + 1) * 2 = j * 2 + 2 by omega]
      simp only [dcs, List.getElem_cons_succ]
      exact this
def nD (d : ND) : Int × Int := (((d.1 : Nat) : Int), ((d.2 : Nat) : Int))
theorem flat_edges (d : Array NE) : (Sort.flatK encE 3 d).toList = necs d.toList := by
  apply List.ext_getElem?
  intro t
  rcases Nat.lt_or_ge t (d.size * 3) with ht | ht
  · have h1 : (Sort.flatK encE 3 d).toList[t]? = some ((Sort.flatK encE 3 d)[t]!) := by
      rw [Array.getElem?_toList, Array.getElem?_eq_getElem (by simpa using ht), getElem!_pos _ t (by simpa using ht)]
    rw [h1, Sort.get_flatK _ _ _ t ht]
    have hq : t / 3 < d.toList.length := by simp; omega
    have hg := necs_get d.toList hq
    have hd : d[t / 3]! = d.toList[t / 3] := by rw [getElem!_pos d _ (by simpa using hq)]; simp
    rw [hd]
    have hr : t % 3 = 0 ∨ t % 3 = 1 ∨ t % 3 = 2 := by omega
    rcases hr with h | h | h
    · rw [h]; conv => rhs; rw [show t = t / 3 * 3 by omega]
      rw [hg.1]; rfl
    · rw [h]; conv => rhs; rw [show t = t / 3 * 3 + 1 by omega]
      rw [hg.2.1]; rfl
    · rw [h]; conv => rhs; rw [show t = t / 3 * 3 + 2 by omega]
      rw [hg.2.2]; rfl
  · rw [List.getElem?_eq_none (by simpa using ht), List.getElem?_eq_none (by rw [necs_length]; simpa using ht)]
theorem flat_darts (d : Array ND) : (Sort.flatK encN 2 d).toList = dcs d.toList := by
  apply List.ext_getElem?
  intro t
  rcases Nat.lt_or_ge t (d.size * 2) with ht | ht
  · have h1 : (Sort.flatK encN 2 d).toList[t]? = some ((Sort.flatK encN 2 d)[t]!) := by
      rw [Array.getElem?_toList, Array.getElem?_eq_getElem (by simpa using ht), getElem!_pos _ t (by simpa using ht)]
    rw [h1, Sort.get_flatK _ _ _ t ht]
    have hq : t / 2 < d.toList.length := by simp; omega
    have hg := dcs_get d.toList hq
    have hd : d[t / 2]! = d.toList[t / 2] := by rw [getElem!_pos d _ (by simpa using hq)]; simp
    rw [hd]
    have hr : t % 2 = 0 ∨ t % 2 = 1 := by omega
    rcases hr with h | h
    · rw [h]; conv => rhs; rw [show t = t / 2 * 2 by omega]
      rw [hg.1]; rfl
    · rw [h]; conv => rhs; rw [show t = t / 2 * 2 + 1 by omega]
      rw [hg.2]; rfl
  · rw [List.getElem?_eq_none (by simpa using ht), List.getElem?_eq_none (by rw [dcs_length]; simpa using ht)]
def ltD (a b : ND) : Prop := a.1 < b.1 ∨ (a.1 = b.1 ∧ a.2 < b.2)
instance (a b : ND) : Decidable (ltD a b) := by unfold ltD; exact inferInstance
instance (a b : NE) : Decidable (ltE a b) := by unfold ltE; exact inferInstance
theorem cmpI_neg (x y : Int) : cmpI x y < 0 ↔ x < y := by unfold cmpI; split <;> (try split) <;> omega
theorem orI_two (a b : Int) : orI [a, b] = if a = 0 then b else a := by
  unfold orI
  by_cases h : a = 0
  · by_cases h' : b = 0 <;> simp [h, h']
  · simp [h]
theorem cmpI_zero (x y : Int) : cmpI x y = 0 ↔ x = y := by unfold cmpI; split <;> (try split) <;> omega
theorem ltOf_E (a b : NE) : ltOf (fun a b => cmpE (nE a) (nE b)) a b = decide (ltE a b) := by
  unfold ltOf
  congr 1
  simp only [cmpE, orI_two, nE, ltE, eq_iff_iff]
  by_cases h : cmpI (a.1 : Int) b.1 = 0
  · rw [if_pos h, cmpI_neg]; rw [cmpI_zero] at h; omega
  · rw [if_neg h, cmpI_neg]; rw [cmpI_zero] at h; omega
theorem ltOf_D (a b : ND) : ltOf (fun a b => cmpD (nD a) (nD b)) a b = decide (ltD a b) := by
  unfold ltOf
  congr 1
  simp only [cmpD, orI_two, nD, ltD, eq_iff_iff]
  by_cases h : cmpI (a.1 : Int) b.1 = 0
  · rw [if_pos h, cmpI_neg]; rw [cmpI_zero] at h; omega
  · rw [if_neg h, cmpI_neg]; rw [cmpI_zero] at h; omega
theorem swo_E : Sort.SWO (ltOf (fun a b => cmpE (nE a) (nE b))) := by
  refine ⟨fun x => ?_, fun x y z h k => ?_, fun x y z h k => ?_⟩
  · rw [ltOf_E]; exact decide_eq_false (by unfold ltE; omega)
  · rw [ltOf_E] at h k ⊢
    have h := of_decide_eq_true h
    have k := of_decide_eq_true k
    exact decide_eq_true (by unfold ltE at *; omega)
  · rw [ltOf_E] at h k ⊢
    have h := of_decide_eq_false h
    have k := of_decide_eq_false k
    exact decide_eq_false (by unfold ltE at *; omega)
theorem swo_D : Sort.SWO (ltOf (fun a b => cmpD (nD a) (nD b))) := by
  refine ⟨fun x => ?_, fun x y z h k => ?_, fun x y z h k => ?_⟩
  · rw [ltOf_D]; exact decide_eq_false (by unfold ltD; omega)
  · rw [ltOf_D] at h k ⊢
    have h := of_decide_eq_true h
    have k := of_decide_eq_true k
    exact decide_eq_true (by unfold ltD at *; omega)
  · rw [ltOf_D] at h k ⊢
    have h := of_decide_eq_false h
    have k := of_decide_eq_false k
    exact decide_eq_false (by unfold ltD at *; omega)
/-- What a comparison of the call's own comes to, in the shelf's words. -/
theorem cmp_lays {W : World} {g : Nat} {args : Array Value} {r : Int} (h : ∀ (U : Cx) (H : Hp) (N : Nat), Spec U g args H N (fun v H' N' => v = .int .i64 r ∧ Sub H H' ∧ N ≤ N')) :
    Calls Tryz.prog g args W fun e w' => e = .returned (.int .i64 r) ∧ ∃ q os', w' = Sort.grow (W.drewN q) os' := by
  have hs := h ⟨W.heap.size, W, Nat.le_refl _⟩ nothing W.heap.size W ⟨Below.refl _ _, fun b o e => (by cases e), rfl, fun b o e => (by cases e), Nat.le_refl _, fun b es it left cur e => (by cases e), Nat.le_refl _⟩
  rw [P_eq] at hs
  refine hs.mono ?_
  rintro e w' ⟨v, H', N', rfl, ho, rfl, _, _⟩
  refine ⟨rfl, w'.drawn - W.drawn, (w'.heap.extract W.heap.size w'.heap.size), ?_⟩
  have hb := ho.below
  have hd := ho.dr
  have hheap : w'.heap = W.heap ++ w'.heap.extract W.heap.size w'.heap.size := by
    apply Array.ext_getElem?
    intro i
    rw [Array.getElem?_append]
    split
    · rename_i hi; exact hb.block i hi
    · rename_i hi
      rw [Array.getElem?_extract]
      have hsz := hb.size
      simp only at hsz
      split
      · congr 1; omega
      · rw [Array.getElem?_eq_none (by omega)]
  cases w' with
  | mk heap tape drawn os output =>
    simp only [Sort.grow, World.drewN] at *
    have e1 := hb.tape; have e2 := hb.os; have e3 := hb.output
    simp only at e1 e2 e3 hd
    subst e1; subst e2; subst e3
    congr 1
    omega
theorem perm_of {α : Type} [Inhabited α] {lt : α → α → Bool} {d d' : Array α} (hp : Sort.PermIn 0 d.size d d') (hs : Sort.SortedIn lt 0 d.size d') : d'.toList.Perm d.toList ∧ d'.toList.Pairwise (fun a b => lt b a = false) := by
  obtain ⟨h1, _, h3⟩ := hp
  refine ⟨?_, ?_⟩
  · have e1 : d'.extract 0 d.size = d' := by rw [← h1]; exact Array.extract_size
    have e2 : d.extract 0 d.size = d := Array.extract_size
    rw [e1, e2] at h3; exact h3
  · rw [List.pairwise_iff_getElem]
    intro i j hi hj hij
    simp at hi hj
    have := hs i j (Nat.zero_le _) hij (by omega)
    rw [getElem!_pos d' i hi, getElem!_pos d' j hj] at this
    simpa using this
theorem s41 (v : Value) (es : List NE) (H : Hp) (N : Nat) (hv : IsSl H v 43 3 (necs es)) (hx : es.length ≤ 1000000) :
    Spec U 41 #[v, .func (.func 42) #[] #[]] H N (fun r H' N' => r = .tuple #[] ∧ N ≤ N' ∧ (∃ es', es'.Perm es ∧ es'.Pairwise (fun a b => ¬ ltE b a) ∧ IsSl H' v 43 3 (necs es')) ∧ ∀ c, blkOf v ≠ some c → H' c = H c) := by
  rcases hv with ⟨rfl, h0⟩ | ⟨b, off, k, cap, tot, rfl, hH, hl, hk, ht⟩
  · have hx0 : es = [] := by cases es with | nil => rfl | cons a l => simp [necs] at h0
    subst hx0
    intro w ho
    rw [P_eq]
    refine (AnyF.slices_SortFunc_none Tryz.sortE none 0 _ w).mono ?_
    rintro e w' ⟨rfl, rfl⟩
    exact ⟨_, H, N, rfl, ho, rfl, Nat.le_refl _, ⟨[], List.Perm.refl _, List.Pairwise.nil, .inl ⟨rfl, rfl⟩⟩, fun _ _ => rfl⟩
  · have hk' : k = es.length := by rw [necs_length] at hl; omega
    subst hk'
    intro w ho
    rw [P_eq]
    have hfl : (Sort.flatK encE 3 es.toArray).toList.map id = necs es := by rw [List.map_id, flat_edges]
    have hh := ho.holdsR U hH (id : Value → Value) (Sort.flatK encE 3 es.toArray) hfl
    have hs := AnyQ.slices_SortFunc Tryz.sortE 3 Tryz.isAgg43 Tryz.sizeOf43 encE (fun x => rfl) (fun x => one3 rfl rfl rfl) (fun a b => cmpE (nE a) (nE b)) swo_E 42 #[] b off cap es.toArray w
      (fun args w => by simp [callFunc, Tryz.func42]; rw [if_neg (by unfold Tryz.f42; simp), if_neg (by unfold Tryz.f42; simp)])
      (fun m os dk _ x y => cmp_lays fun U H N => s42 U (nE x) (nE y) H N)
      hh (by rw [ho.size]; exact ho.lt _ _ hH) (by simp; omega)
    simp only [List.size_toArray] at hs
    refine hs.mono ?_
    rintro e w' ⟨rfl, d', n, os, hp, hso, rfl⟩
    obtain ⟨hp1, hp2⟩ := perm_of (d := es.toArray) hp hso
    simp only [List.size_toArray] at hp1
    have hfl' : (Sort.flatK encE 3 d').toList.map id = necs d'.toList := by rw [List.map_id, flat_edges]
    have hlen : d'.size = es.length := by have := hp1.length_eq; simpa using this
    refine ⟨_, _, _, rfl, ho.sorted U hH id (Sort.flatK encE 3 d') (by simp [necs_length, hlen]) n os, rfl, by omega, ⟨d'.toList, hp1, hp2.imp fun h => ?_, .inr ⟨b, off, es.length, cap, tot, rfl, ?_, ?_, hk, ht⟩⟩, ?_⟩
    · rw [ltOf_E] at h; exact of_decide_eq_false h
    · rw [hsy, hfl']
    · rw [necs_length]; simp [hlen]
    · intro c hc
      exact hsn (by rintro rfl; exact hc rfl)
theorem s78 (v : Value) (es : List ND) (H : Hp) (N : Nat) (hv : IsSl H v 56 2 (dcs es)) (hx : es.length ≤ 1000000) :
    Spec U 78 #[v, .func (.func 79) #[] #[]] H N (fun r H' N' => r = .tuple #[] ∧ N ≤ N' ∧ (∃ es', es'.Perm es ∧ es'.Pairwise (fun a b => ¬ ltD b a) ∧ IsSl H' v 56 2 (dcs es')) ∧ ∀ c, blkOf v ≠ some c → H' c = H c) := by
  rcases hv with ⟨rfl, h0⟩ | ⟨b, off, k, cap, tot, rfl, hH, hl, hk, ht⟩
  · have hx0 : es = [] := by cases es with | nil => rfl | cons a l => simp [dcs] at h0
    subst hx0
    intro w ho
    rw [P_eq]
    refine (AnyF.slices_SortFunc_none Tryz.sortD none 0 _ w).mono ?_
    rintro e w' ⟨rfl, rfl⟩
    exact ⟨_, H, N, rfl, ho, rfl, Nat.le_refl _, ⟨[], List.Perm.refl _, List.Pairwise.nil, .inl ⟨rfl, rfl⟩⟩, fun _ _ => rfl⟩
  · have hk' : k = es.length := by rw [dcs_length] at hl; omega
    subst hk'
    intro w ho
    rw [P_eq]
    have hfl : (Sort.flatK encN 2 es.toArray).toList.map id = dcs es := by rw [List.map_id, flat_darts]
    have hh := ho.holdsR U hH (id : Value → Value) (Sort.flatK encN 2 es.toArray) hfl
    have hs := AnyQ.slices_SortFunc Tryz.sortD 2 Tryz.isAgg56 Tryz.sizeOf56 encN (fun x => rfl) (fun x => one2 rfl rfl) (fun a b => cmpD (nD a) (nD b)) swo_D 79 #[] b off cap es.toArray w
      (fun args w => by simp [callFunc, Tryz.func79]; rw [if_neg (by unfold Tryz.f79; simp), if_neg (by unfold Tryz.f79; simp)])
      (fun m os dk _ x y => cmp_lays fun U H N => s79 U (nD x) (nD y) H N)
      hh (by rw [ho.size]; exact ho.lt _ _ hH) (by simp; omega)
    simp only [List.size_toArray] at hs
    refine hs.mono ?_
    rintro e w' ⟨rfl, d', n, os, hp, hso, rfl⟩
    obtain ⟨hp1, hp2⟩ := perm_of (d := es.toArray) hp hso
    simp only [List.size_toArray] at hp1
    have hfl' : (Sort.flatK encN 2 d').toList.map id = dcs d'.toList := by rw [List.map_id, flat_darts]
    have hlen : d'.size = es.length := by have := hp1.length_eq; simpa using this
    refine ⟨_, _, _, rfl, ho.sorted U hH id (Sort.flatK encN 2 d') (by simp [dcs_length, hlen]) n os, rfl, by omega, ⟨d'.toList, hp1, hp2.imp fun h => ?_, .inr ⟨b, off, es.length, cap, tot, rfl, ?_, ?_, hk, ht⟩⟩, ?_⟩
    · rw [ltOf_D] at h; exact of_decide_eq_false h
    · rw [hsy, hfl']
    · rw [dcs_length]; simp [hlen]
    · intro c hc
      exact hsn (by rintro rfl; exact hc rfl)
end Go.Proofs.YtdmodppoellbkaaGreat
namespace Go.Proofs.YtdmodppoellbkaaGreat
open Go Go.RowKit
variable (U : Cx)
theorem s35 (n k s : Nat) (E : List NE) (sv : Value) (hg : GOk n E) (hk1 : 1 ≤ k) (hk8 : k ≤ 8) (hsk : s ≤ k) (H : Hp) (N : Nat) (hv : RdS U H sv 3 (necs E)) : Spec U 35 #[(.agg #[(.int .i64 ((n : Nat) : Int)), sv]), (.int .i64 ((k : Nat) : Int)), (.int .i64 ((s : Nat) : Int))] H N (fun v H' N' => ∃ kv, v = .tuple #[kv, .int .i64 0] ∧ RdS U H' kv 1 (bools (keptL n E k s)) ∧ Sub H H' ∧ N ≤ N') := by
  have hsc : sv.cells.toList = [sv] := by obtain ⟨p, q, cap, rfl, _⟩ := hv; rfl
  refine spa U pf_35 (m := 57) rfl rfl (by simp) fun hBN hlt => ?_
  obtain ⟨J, hJ⟩ := Has.ex (T := argsT #[(.agg #[(.int .i64 ((n : Nat) : Int)), sv]), (.int .i64 ((k : Nat) : Int)), (.int .i64 ((s : Nat) : Int))]) (l := [(0, (.agg #[(.int .i64 ((n : Nat) : Int)), sv])), (1, (.int .i64 ((k : Nat) : Int))), (2, (.int .i64 ((s : Nat) : Int)))]) ⟨rfl, rfl, rfl, trivial⟩
  rw [hJ]; clear hJ
  have hn64 := hg.hn; have hm := hg.hm; have hlv := bfs_lev hg
  repeat (first|refine nt ?_|refine nq ?_|refine wq U ?_)
  refine wg U ?_
  refine wl_op U rfl rfl (op_box U rfl rfl ?_)
  refine wr U ((ra U).to (v' := (.slice none 0 0)) rfl) rfl rfl ?_
  refine wr U ((ra U).to (v' := (.int .i64 0)) rfl) rfl rfl ?_
  refine wz U ?_
  repeat (first|refine nt ?_|refine nq ?_|refine wq U ?_)
  refine wg U ?_
  refine wr U (rd_load2 U el_24 rfl (v0 := (.int .i64 ((n : Nat) : Int))) (v1 := sv)  (by rw [rhq U (by omega)]; rfl) (by rw [rhq U (by omega)]; rfl)) rfl rfl ?_
  refine wl_op U rfl rfl (op_call U Tryz.f53 rfl rfl pf_53 (by kernel_rfl) (by kernel_rfl) ((s53 U n E sv hg _ _ (hv.sub U ((Sub.refl _).hset (fresh hlt (by omega))))).mono U ?_))
  rintro _ R N1 hq
  obtain ⟨lv, rfl, hl, hs1, hN1⟩ := hq
  have hx_1 := hs1 N _ (by first|(rw [hsy]; done) | (rw [hsy]; rfl))
  have hs_2 := ((Sub.refl _).hset (fresh hlt (by omega))).trans hs1
  refine wl_own U fun hBN1 hltR => ?_
  obtain ⟨pl, capl, rfl, hcl, hpl⟩ := hl.nums U
  refine wr U ((rm U).to (v' := (.tuple #[(.slice pl ((levL n E).length) capl), (.int .i64 0)])) rfl) rfl rfl ?_
  refine wr U ((rd_extract U rfl rfl).to (v' := (.slice pl ((levL n E).length) capl)) rfl) rfl rfl ?_
  refine wr U ((rd_extract U rfl rfl).to (v' := (.int .i64 0)) rfl) rfl rfl ?_
  refine wr U ((ra U).to (v' := (.slice pl ((levL n E).length) capl)) rfl) rfl rfl ?_
  refine wr U ((ra U).to (v' := (.int .i64 0)) rfl) rfl rfl ?_
  refine wz U ?_
  have hsR := hs_2
  repeat (first|refine nt ?_|refine nq ?_|refine wq U ?_)
  refine wc_block U ?_
  repeat (first|refine nt ?_|refine nq ?_|refine wq U ?_)
  refine wg U ?_
  refine wr U ((rm U).to (v' := (.int .i64 0)) rfl) rfl rfl ?_
  refine wr U (rd_neq U rfl rfl) rfl rfl ?_
  refine wr U ((ra U).to (v' := (.bool (decide (0 ≠ 0)))) rfl) rfl rfl ?_
  refine wz U ?_
  repeat (first|refine nt ?_|refine nq ?_|refine wq U ?_)
  refine wcd U (t := false) rfl (fun h => nomatch h) fun _ => ?_
  repeat (first|refine nt ?_|refine nq ?_|refine wq U ?_)
  refine wg U ?_
  refine wr U ((rm U).to (v' := (.int .i64 ((k : Nat) : Int))) rfl) rfl rfl ?_
  refine wr U ((rd_lss U rfl rfl).to (v' := (.bool false)) (congrArg Value.bool (decide_eq_false (by omega)))) rfl rfl ?_
  refine wr U ((ra U).to (v' := (.bool false)) rfl) rfl rfl ?_
  refine wz U ?_
  repeat (first|refine nt ?_|refine nq ?_|refine wq U ?_)
  refine wcd U (t := false) rfl (fun h => nomatch h) fun _ => ?_
  repeat (first|refine nt ?_|refine nq ?_|refine wq U ?_)
  refine wg U ?_
  refine wr U ((rm U).to (v' := (.int .i64 ((k : Nat) : Int))) rfl) rfl rfl ?_
  refine wr U ((rd_gtr U rfl rfl).to (v' := (.bool false)) (congrArg Value.bool (decide_eq_false (by omega)))) rfl rfl ?_
  refine wr U ((ra U).to (v' := (.bool false)) rfl) rfl rfl ?_
  refine wz U ?_
  repeat (first|refine nt ?_|refine nq ?_|refine wq U ?_)
  refine wcd U (t := false) rfl (fun h => nomatch h) fun _ => ?_
  repeat (first|refine nt ?_|refine nq ?_|refine wq U ?_)
  refine wg U ?_
  refine wr U ((rm U).to (v' := (.int .i64 ((s : Nat) : Int))) rfl) rfl rfl ?_
  refine wr U ((rd_lss U rfl rfl).to (v' := (.bool false)) (congrArg Value.bool (decide_eq_false (by omega)))) rfl rfl ?_
  refine wr U ((ra U).to (v' := (.bool false)) rfl) rfl rfl ?_
  refine wz U ?_
  repeat (first|refine nt ?_|refine nq ?_|refine wq U ?_)
  refine wcd U (t := false) rfl (fun h => nomatch h) fun _ => ?_
  repeat (first|refine nt ?_|refine nq ?_|refine wq U ?_)
  refine wg U ?_
  refine wr U ((rm U).to (v' := (.int .i64 ((s : Nat) : Int))) rfl) rfl rfl ?_
  refine wr U ((rm U).to (v' := (.int .i64 ((k : Nat) : Int))) rfl) rfl rfl ?_
  refine wr U ((rd_gtr U rfl rfl).to (v' := (.bool false)) (congrArg Value.bool (decide_eq_false (by omega)))) rfl rfl ?_
  refine wr U ((ra U).to (v' := (.bool false)) rfl) rfl rfl ?_
  refine wz U ?_
  repeat (first|refine nt ?_|refine nq ?_)
  repeat (first|refine nt ?_|refine nq ?_|refine wq U ?_)
  refine wcd U (t := false) rfl (fun h => nomatch h) fun _ => ?_
  refine wsk U ?_
  repeat (first|refine nt ?_|refine nq ?_)
  repeat (first|refine nt ?_|refine nq ?_|refine wq U ?_)
  refine wg U ?_
  refine wr U ((rfa U fb_24_0 rfl).to (v' := (.pointer (some ⟨N, 0, none⟩))) rfl) rfl rfl ?_
  refine wr U (rl1 U el_3 rfl (v := (.int .i64 ((n : Nat) : Int))) (by rw [rrw U (by omega) hx_1]; rfl)) rfl rfl ?_
  refine wl_op U rfl rfl (op_makeSlice U (m := n) (v := .bool false) sl_67 rfl rfl rfl (by omega) (by omega) ?_)
  refine wr U ((ra U).to (v' := (.slice (some ⟨N1, 0, none⟩) n n)) rfl) rfl rfl ?_
  refine wz U ?_
  refine wc_gen U (fun H2 => H2 N1 = some (.row 4 0 (bools (List.replicate n false)) n) ∧ Sub R H2) ⟨by rw [← bools_rep]; exact hsy, (Sub.refl R).hset (fresh hltR (by omega))⟩ ?_
  rintro H2 ⟨hm2, hs2R⟩ hBN2 hlt2
  repeat (first|refine nt ?_|refine nq ?_|refine wq U ?_)
  refine wg U ?_
  refine wr U ((rm U).to (v' := (.slice pl ((levL n E).length) capl)) rfl) rfl rfl ?_
  refine wr U ((rd_len' U sl_26 rfl).to (v' := (.int .i64 (((levL n E).length : Nat) : Int))) rfl) rfl rfl ?_
  refine wr U ((rm U).to (v' := (.int .i64 0)) rfl) rfl rfl ?_
  refine wz U ?_
  repeat (first|refine nt ?_|refine nq ?_|refine wq U ?_)
  refine wc_block U ?_
  refine wc_loop U (fun m T H' N' => ∃ (j : Nat) (bs : List Bool), j ≤ n ∧ m = n - j ∧ Has T [(1, (.int .i64 ((k : Nat) : Int))), (2, (.int .i64 ((s : Nat) : Int))), (10, (.slice (some ⟨N1, 0, none⟩) n n)), (35, (.slice pl ((levL n E).length) capl)), (36, (.int .i64 (((levL n E).length : Nat) : Int))), (37, (.int .i64 ((j : Nat) : Int)))] ∧ H' N1 = some (.row 4 0 (bools bs) n) ∧ Sub R H' ∧ N1 < N' ∧ bs.length = n ∧ (∀ i, i < j → bs[i]? = (keptL n E k s)[i]?)) n ⟨0, List.replicate n false, Nat.zero_le _, rfl, ⟨rfl, rfl, rfl, rfl, rfl, rfl, trivial⟩, hm2, hs2R, by omega, by simp, by omega⟩ ?_
  rintro m T H3 N3 ⟨j, bs, hj, rfl, hT, hm3, hs3, hN3, hbl, hbs⟩
  obtain ⟨J, rfl⟩ := hT.ex
  repeat (first|refine nt ?_|refine nq ?_|refine wq U ?_)
  refine wg U ?_
  refine wr U (rd_lss U rfl rfl) rfl rfl ?_
  refine wz U ?_
  repeat (first|refine nt ?_|refine nq ?_|refine wq U ?_)
  refine wcd U (t := (decide (((j : Nat) : Int) < (((levL n E).length : Nat) : Int)))) rfl (fun hck => ?_) fun hck => ?_
  · replace hck := of_decide_eq_true hck
    refine wsk U ?_
    repeat (first|refine nt ?_|refine nq ?_)
    have hj1 : j < n := by have := hlv.1; omega
    have hj2 : j < (levL n E).length := by rw [hlv.1]; exact hj1
    obtain ⟨b, off, rfl⟩ := hpl (by omega)
    have hx := hlv.2 _ (List.getElem_mem hj2)
    have hl3 := hl.sub U hs3
    repeat (first|refine nt ?_|refine nq ?_|refine wq U ?_)
    refine wc_block U ?_
    repeat (first|refine nt ?_|refine nq ?_|refine wq U ?_)
    refine wg U ?_
    refine wr U ((rm U).to (v' := (.int .i64 ((j : Nat) : Int))) rfl) rfl rfl ?_
    refine wr U (rd_idx1 U (j := j) sl_26 rfl rfl (by omega)) rfl rfl ?_
    refine wr U (rl1 U el_3 rfl (v := (.int .i64 (((levL n E)[j] : Nat) : Int))) (hl3.n0 U hj2)) rfl rfl ?_
    refine wr U ((ra U).to (v' := (.int .i64 ((j : Nat) : Int))) rfl) rfl rfl ?_
    refine wr U ((ra U).to (v' := (.int .i64 (((levL n E)[j] : Nat) : Int))) rfl) rfl rfl ?_
    refine wz U ?_
    repeat (first|refine nt ?_|refine nq ?_|refine wq U ?_)
    refine wg U ?_
    refine wr U ((rm U).to (v' := (.slice (some ⟨N1, 0, none⟩) n n)) rfl) rfl rfl ?_
    refine wr U ((rm U).to (v' := (.int .i64 ((j : Nat) : Int))) rfl) rfl rfl ?_
    refine wr U ((rm U).to (v' := (.int .i64 (((levL n E)[j] : Nat) : Int))) rfl) rfl rfl ?_
    refine wr U ((rm U).to (v' := (.int .i64 ((k : Nat) : Int))) rfl) rfl rfl ?_
    refine wr U (rd_add U rfl rfl (by omega) (by omega)) rfl rfl ?_
    refine wr U (rd_add U rfl rfl (by omega) (by omega)) rfl rfl ?_
    refine wr U ((rm U).to (v' := (.int .i64 ((s : Nat) : Int))) rfl) rfl rfl ?_
    refine wr U (rd_sub' U rfl rfl (by omega) (by omega)) rfl rfl ?_
    refine wr U ((rm U).to (v' := (.int .i64 ((k : Nat) : Int))) rfl) rfl rfl ?_
    refine wr U (rd_add U rfl rfl (by omega) (by omega)) rfl rfl ?_
    refine wr U (rd_rem U rfl rfl (by omega)) rfl rfl ?_
    refine wr U ((rd_neq U rfl rfl).to (v' := (.bool (keptB k s (levL n E)[j]))) (congrArg Value.bool (kept_int hsk))) rfl rfl ?_
    refine wr U (rd_idx1 U (j := j) sl_67 rfl rfl hj1) rfl rfl ?_
    refine wl_op0 U rfl (op_store1 U el_4 rfl rfl rfl rfl hm3 (by omega) (by rw [bools_length, hbl]; omega) ?_)
    refine wz U ?_
    repeat (first|refine nt ?_|refine nq ?_)
    repeat (first|refine nt ?_|refine nq ?_|refine wq U ?_)
    refine wg U ?_
    refine wr U (rd_add U rfl rfl (by omega) (by omega)) rfl rfl ?_
    refine wr U ((rm U).to (v' := (.int .i64 (((j : Nat) : Int) + 1))) rfl) rfl rfl ?_
    refine wz U ?_
    repeat (first|refine nt ?_|refine nq ?_)
    refine ⟨n - (j + 1), by omega, j + 1, bs.set j (keptB k s (levL n E)[j]), by omega, rfl, ⟨rfl, rfl, rfl, rfl, rfl, rfl, trivial⟩, ?_, ?_, hN3, by simp [hbl], ?_⟩
    · rw [hsy]; exact congrArg (fun l => some (Blk.row 4 0 l n)) (bools_set _ _ _)
    · intro c o hc; have := hltR c o hc; rw [hsn (b := c) (by omega)]; exact hs3 c o hc
    · intro i hi; rw [List.getElem?_set]; split
      · rename_i he; subst he; rw [if_pos (by rw [hbl]; exact hj1), keptL, List.getElem?_map, List.getElem?_eq_getElem hj2]; rfl
      · exact hbs i (by omega)
  · replace hck := of_decide_eq_false hck
    refine wc_exit U ?_
    repeat (first|refine xt ?_|refine xps (by decide) ?_)
    refine xbl ?_
    repeat (first|refine nt ?_|refine nq ?_)
    have hjn : j = n := by have := hlv.1; omega
    have hbe : bs = keptL n E k s := by apply List.ext_getElem?; intro i; rcases Nat.lt_or_ge i n with h | h; exact hbs i (by omega); rw [List.getElem?_eq_none (by omega), List.getElem?_eq_none (by rw [keptL_length hg]; exact h)]
    subst hbe
    repeat (first|refine nt ?_|refine nq ?_|refine wq U ?_)
    refine wg U ?_
    refine wr U ((rm U).to (v' := (.slice (some ⟨N1, 0, none⟩) n n)) rfl) rfl rfl ?_
    refine wr U ((ra U).to (v' := (.slice (some ⟨N1, 0, none⟩) n n)) rfl) rfl rfl ?_
    refine wr U ((ra U).to (v' := (.int .i64 0)) rfl) rfl rfl ?_
    refine wz U ?_
    refine wc_ret U ?_
    repeat (first|refine ret1 ?_|refine ret2 ?_)
    exact end2 U (.inl rfl) rfl (v := (.slice (some ⟨N1, 0, none⟩) n n)) (v' := (.int .i64 0)) rfl rfl ⟨_, rfl, row_rds U (by omega) hm3 (by rw [bools_length, hbl]) (Nat.le_refl _), hsR.trans hs3, by omega⟩
end Go.Proofs.YtdmodppoellbkaaGreat
namespace Go.Proofs.YtdmodppoellbkaaGreat
open Go Go.RowKit
variable (U : Cx)
def keptC (keep : List Bool) (c : List Nat) : Bool := keep.getD (c.headD 0) false
/-- Values of lists, and what they hold. -/
def RdV (F : Hp) (us : List Value) (xss : List (List Nat)) : Prop := us.length = xss.length ∧ ∀ (i : Nat) (u : Value) (xs : List Nat), us[i]? = some u → xss[i]? = some xs → RdS U F u 1 (nats xs)
theorem RdV.push {F : Hp} {us : List Value} {xss : List (List Nat)} {u : Value} {xs : List Nat} (h : RdV U F us xss) (hu : RdS U F u 1 (nats xs)) : RdV U F (us ++ [u]) (xss ++ [xs]) := by
  refine ⟨by simp [h.1], fun i v ys hv hy => ?_⟩
  rcases Nat.lt_or_ge i us.length with hi | hi
  · rw [List.getElem?_append_left hi] at hv
    rw [List.getElem?_append_left (by rw [← h.1]; exact hi)] at hy
    exact h.2 i v ys hv hy
  · rw [List.getElem?_append_right hi] at hv
    rw [List.getElem?_append_right (by rw [← h.1]; exact hi)] at hy
    have h0 : i - us.length = 0 := by
      rcases Nat.eq_zero_or_pos (i - us.length) with h' | h'
      · exact h'
      · rw [List.getElem?_eq_none (by simp; omega)] at hv; cases hv
    rw [h0] at hv
    rw [← h.1, h0] at hy
    simp at hv hy; subst hv; subst hy; exact hu
theorem RdV.sub {F H : Hp} {us : List Value} {xss : List (List Nat)} (h : RdV U F us xss) (hs : Sub F H) : RdV U H us xss := ⟨h.1, fun i u xs hu hx => (h.2 i u xs hu hx).sub U hs⟩
theorem Rd2.open {F : Hp} {v : Value} {xss : List (List Nat)} (h : Rd2 U F v xss) : ∃ p cap us, v = .slice p xss.length cap ∧ (0 < xss.length → ∃ b off, p = some ⟨b, off, none⟩) ∧ RdS U F v 1 us ∧ RdV U F us xss := by
  obtain ⟨us, h1, h2, h3⟩ := h
  obtain ⟨p, cap, rfl, h4, h5⟩ := h1.cells1 U
  exact ⟨p, cap, us, by rw [h2], by rw [← h2]; exact h5, h1, h2, h3⟩
theorem RdV.rd2 {F : Hp} {v : Value} {us : List Value} {xss : List (List Nat)} (h : RdV U F us xss) (hv : RdS U F v 1 us) : Rd2 U F v xss := ⟨us, hv, h.1, h.2⟩
theorem Comps.ne {n : Nat} {E : List NE} {cs : List (List Nat)} (h : Comps n E cs) {c : List Nat} (hc : c ∈ cs) : 0 < c.length := by
  obtain ⟨_, r, hr, _⟩ := h.c c hc
  exact List.length_pos_of_mem hr
theorem comps_len {n : Nat} {E : List NE} {cs : List (List Nat)} (h : Comps n E cs) : cs.length ≤ n := by
  have : (cs.map (fun c => c.headD 0)).length ≤ n := by
    apply nodup_len
    · rw [List.nodup_iff_pairwise_ne] <;> skip
      rw [List.pairwise_map]
      refine List.Pairwise.imp_of_mem ?_ h.d
      intro a b ha hb hab he
      have h1 : a.headD 0 ∈ a := by
        have := h.ne ha
        cases a with
        | nil => simp at this
        | cons x l => simp
      have h2 : b.headD 0 ∈ b := by
        have := h.ne hb
        cases b with
        | nil => simp at this
        | cons x l => simp
      exact hab _ h1 (he ▸ h2)
    · intro x hx
      obtain ⟨c, hc, rfl⟩ := List.mem_map.1 hx
      apply h.lt c hc
      have := h.ne hc
      cases c with
      | nil => simp at this
      | cons x l => simp
  simpa using this
theorem s19 (n k s : Nat) (E : List NE) (sv : Value) (hg : GOk n E) (hk1 : 1 ≤ k) (hk8 : k ≤ 8) (hsk : s ≤ k) (H : Hp) (N : Nat) (hv : RdS U H sv 3 (necs E)) : Spec U 19 #[(.agg #[(.int .i64 ((n : Nat) : Int)), sv]), (.int .i64 ((k : Nat) : Int)), (.int .i64 ((s : Nat) : Int))] H N (fun v H' N' => ∃ pv cs, v = .tuple #[pv, .int .i64 0] ∧ Comps n (onlyE E (keptL n E k s)) cs ∧ Rd2 U H' pv (cs.filter (keptC (keptL n E k s))) ∧ Sub H H' ∧ N ≤ N') := by
  have hsc : sv.cells.toList = [sv] := by obtain ⟨p, q, cap, rfl, _⟩ := hv; rfl
  refine spa U pf_19 (m := 42) rfl rfl (by simp) fun hBN hlt => ?_
  obtain ⟨J, hJ⟩ := Has.ex (T := argsT #[(.agg #[(.int .i64 ((n : Nat) : Int)), sv]), (.int .i64 ((k : Nat) : Int)), (.int .i64 ((s : Nat) : Int))]) (l := [(0, (.agg #[(.int .i64 ((n : Nat) : Int)), sv])), (1, (.int .i64 ((k : Nat) : Int))), (2, (.int .i64 ((s : Nat) : Int)))]) ⟨rfl, rfl, rfl, trivial⟩
  rw [hJ]; clear hJ
  have hn64 := hg.hn; have hm := hg.hm; obtain ⟨keep, hkeep⟩ : ∃ l, l = keptL n E k s := ⟨_, rfl⟩; have hkl : keep.length = n := by rw [hkeep]; exact keptL_length hg k s
  rw [← hkeep]
  repeat (first|refine nt ?_|refine nq ?_|refine wq U ?_)
  refine wg U ?_
  refine wl_op U rfl rfl (op_box U rfl rfl ?_)
  refine wr U ((ra U).to (v' := (.slice none 0 0)) rfl) rfl rfl ?_
  refine wr U ((ra U).to (v' := (.int .i64 0)) rfl) rfl rfl ?_
  refine wz U ?_
  repeat (first|refine nt ?_|refine nq ?_|refine wq U ?_)
  refine wg U ?_
  refine wr U (rd_load2 U el_24 rfl (v0 := (.int .i64 ((n : Nat) : Int))) (v1 := sv)  (by rw [rhq U (by omega)]; rfl) (by rw [rhq U (by omega)]; rfl)) rfl rfl ?_
  refine wr U ((rm U).to (v' := (.int .i64 ((k : Nat) : Int))) rfl) rfl rfl ?_
  refine wr U ((rm U).to (v' := (.int .i64 ((s : Nat) : Int))) rfl) rfl rfl ?_
  refine wl_op U rfl rfl (op_call U Tryz.f35 rfl rfl pf_35 (by kernel_rfl) (by kernel_rfl) ((s35 U n k s E sv hg hk1 hk8 hsk _ _ (hv.sub U ((Sub.refl _).hset (fresh hlt (by omega))))).mono U ?_))
  rintro _ R N1 hq
  obtain ⟨kv, rfl, hl, hs1, hN1⟩ := hq
  have hx_1 := hs1 N _ (by first|(rw [hsy]; done) | (rw [hsy]; rfl))
  have hs_2 := ((Sub.refl _).hset (fresh hlt (by omega))).trans hs1
  rw [← hkeep] at hl
  have hl0 := hl
  obtain ⟨pk, capk, rfl, hck, hpk⟩ := hl.cells1 U
  simp only [bools_length] at hck hpk
  have hkl2 : RdS U R (.slice pk keep.length capk) 1 (bools keep) := by simpa [bools_length] using hl
  have hkeq : (Value.slice pk (bools keep).length capk) = (.slice pk keep.length capk) := by rw [bools_length]
  rw [hkeq]
  refine wr U ((rm U).to (v' := (.tuple #[(.slice pk keep.length capk), (.int .i64 0)])) rfl) rfl rfl ?_
  refine wr U ((rd_extract U rfl rfl).to (v' := (.slice pk keep.length capk)) rfl) rfl rfl ?_
  refine wr U ((rd_extract U rfl rfl).to (v' := (.int .i64 0)) rfl) rfl rfl ?_
  refine wr U ((ra U).to (v' := (.slice pk keep.length capk)) rfl) rfl rfl ?_
  refine wr U ((ra U).to (v' := (.int .i64 0)) rfl) rfl rfl ?_
  refine wz U ?_
  have hsR := hs_2
  repeat (first|refine nt ?_|refine nq ?_|refine wq U ?_)
  refine wg U ?_
  refine wr U ((rm U).to (v' := (.int .i64 0)) rfl) rfl rfl ?_
  refine wr U (rd_neq U rfl rfl) rfl rfl ?_
  refine wz U ?_
  repeat (first|refine nt ?_|refine nq ?_|refine wq U ?_)
  refine wcd U (t := false) rfl (fun h => nomatch h) fun _ => ?_
  refine wsk U ?_
  repeat (first|refine nt ?_|refine nq ?_|refine wq U ?_)
  refine wg U ?_
  refine wr U (rd_load2 U el_24 rfl (v0 := (.int .i64 ((n : Nat) : Int))) (v1 := sv)  (by rw [rrw U (by omega) hx_1]; rfl) (by rw [rrw U (by omega) hx_1]; rfl)) rfl rfl ?_
  refine wr U ((rm U).to (v' := (.slice pk keep.length capk)) rfl) rfl rfl ?_
  refine wl_op U rfl rfl (op_call U Tryz.f37 rfl rfl pf_37 (by kernel_rfl) (by kernel_rfl) ((s37 U n E sv _ keep hg _ _ (hv.sub U hsR) hkl2).mono U ?_))
  rintro _ R2 N2 hq
  obtain ⟨ov, rfl, hov, _, hs2, hN2⟩ := hq
  have hx_3 := hs2 N _ hx_1
  have hs_4 := hs_2.trans hs2
  refine wl_op U rfl rfl (op_call U Tryz.f36 rfl rfl pf_36 (by kernel_rfl) (by kernel_rfl) ((s36 U n _ ov (onlyE_ok hg keep) _ _ hov).mono U ?_))
  rintro cv R3 N3 hq
  obtain ⟨cs, hcs, hrd, hs3, hN3⟩ := hq
  have hx_5 := hs3 N _ hx_3
  have hs_6 := hs_4.trans hs3
  refine wl_own U fun hBN3 hlt3 => ?_
  obtain ⟨pc, capc, us, rfl, hpc, hru, hus⟩ := hrd.open U
  refine wr U ((rd_len' U sl_25 rfl).to (v' := (.int .i64 ((cs.length : Nat) : Int))) rfl) rfl rfl ?_
  refine wr U ((rm U).to (v' := (.int .i64 0)) rfl) rfl rfl ?_
  refine wz U ?_
  have hs13 := hs2.trans hs3; have hcl := comps_len hcs; have hkr := hkl2.sub U hs13
  repeat (first|refine nt ?_|refine nq ?_|refine wq U ?_)
  refine wc_block U ?_
  refine wc_loop U (fun m T H' N' => ∃ (i : Nat) (ov : Value) (os : List Value), i ≤ cs.length ∧ m = cs.length - i ∧ Has T [(6, ov), (8, (.slice pk keep.length capk)), (24, (.slice pc cs.length capc)), (25, (.int .i64 ((cs.length : Nat) : Int))), (26, (.int .i64 ((i : Nat) : Int)))] ∧ Sub R3 H' ∧ IsSl H' ov 26 1 os ∧ (∀ c, blkOf ov = some c → N3 ≤ c) ∧ RdV U R3 os ((cs.take i).filter (keptC keep)) ∧ N3 ≤ N') cs.length ⟨0, .slice none 0 0, [], Nat.zero_le _, rfl, ⟨rfl, rfl, rfl, rfl, rfl, trivial⟩, Sub.refl _, .inl ⟨rfl, rfl⟩, (fun c hc => by cases hc), ⟨rfl, fun i u xs hu => by simp at hu⟩, Nat.le_refl _⟩ ?_
  rintro m T H4 N4 ⟨i, ov, os, hi, rfl, hT, hs4, hov4, hob, hos, hN4⟩
  obtain ⟨J, rfl⟩ := hT.ex
  refine wc_own U fun hBN4 hlt4 => ?_
  repeat (first|refine nt ?_|refine nq ?_|refine wq U ?_)
  refine wg U ?_
  refine wr U (rd_lss U rfl rfl) rfl rfl ?_
  refine wz U ?_
  repeat (first|refine nt ?_|refine nq ?_|refine wq U ?_)
  refine wcd U (t := (decide (((i : Nat) : Int) < ((cs.length : Nat) : Int)))) rfl (fun hck => ?_) fun hck => ?_
  · replace hck := of_decide_eq_true hck
    refine wsk U ?_
    repeat (first|refine nt ?_|refine nq ?_)
    have hi1 : i < cs.length := by omega
    obtain ⟨u, hu⟩ := get_ex (l := us) (i := i) (by rw [hus.1]; exact hi1)
    have hur := hus.2 _ _ _ hu (List.getElem?_eq_getElem hi1)
    obtain ⟨pu, capu, rfl, hcu, hpu⟩ := hur.nums U
    have hcm := List.getElem_mem hi1
    have hc0 := hcs.ne hcm
    obtain ⟨bc, offc, rfl⟩ := hpc (by omega)
    repeat (first|refine nt ?_|refine nq ?_|refine wq U ?_)
    refine wc_block U ?_
    repeat (first|refine nt ?_|refine nq ?_|refine wq U ?_)
    refine wg U ?_
    refine wr U (rd_idx1 U (j := i) sl_25 rfl rfl (by omega)) rfl rfl ?_
    refine wr U (rl1 U el_26 rfl (v := (.slice pu (cs[i].length) capu)) ((hru.sub U hs4).get U hu)) rfl rfl ?_
    refine wr U ((ra U).to (v' := (.slice pu (cs[i].length) capu)) rfl) rfl rfl ?_
    refine wz U ?_
    obtain ⟨bu, offu, rfl⟩ := hpu hc0
    have hc0n := hcs.lt _ hcm _ (List.getElem_mem hc0)
    obtain ⟨bk, hbk⟩ := get_ex (l := keep) (i := cs[i][0]) (by rw [hkl]; exact hc0n)
    obtain ⟨bk0, offk, rfl⟩ := hpk (by omega)
    have hkc : keptC keep cs[i] = bk := by rw [keptC, List.getD_eq_getElem?_getD, show cs[i].headD 0 = cs[i][0] by rw [List.headD_eq_head?_getD, List.head?_eq_getElem?, List.getElem?_eq_getElem hc0]; rfl, hbk]; rfl
    repeat (first|refine nt ?_|refine nq ?_|refine wq U ?_)
    refine wg U ?_
    refine wr U ((rm U).to (v' := (.slice (some ⟨bk0, offk, none⟩) keep.length capk)) rfl) rfl rfl ?_
    refine wr U ((rm U).to (v' := (.slice (some ⟨bu, offu, none⟩) (cs[i].length) capu)) rfl) rfl rfl ?_
    refine wr U (rd_idxI1 U 0 sl_26 rfl rfl rfl hc0) rfl rfl ?_
    refine wr U (rl1 U el_3 rfl (v := (.int .i64 ((cs[i][0] : Nat) : Int))) ((hur.sub U hs4).n0 U hc0)) rfl rfl ?_
    refine wr U (rd_idx1 U (j := cs[i][0]) sl_67 rfl rfl (by rw [hkl]; exact hc0n)) rfl rfl ?_
    refine wr U (rl1 U el_4 rfl (v := (.bool bk)) ((hkr.sub U hs4).get U (bools_get hbk))) rfl rfl ?_
    refine wz U ?_
    repeat (first|refine nt ?_|refine nq ?_|refine wq U ?_)
    refine wcd U (t := bk) rfl (fun hbt => ?_) fun hbt => ?_
    · skip
      subst hbt
      repeat (first|refine nt ?_|refine nq ?_|refine wq U ?_)
      refine wg U ?_
      refine wr U ((rm U).to (v' := ov) rfl) rfl rfl ?_
      refine wr U ((rm U).to (v' := (.slice (some ⟨bu, offu, none⟩) (cs[i].length) capu)) rfl) rfl rfl ?_
      refine wl_op U rfl rfl (op_bs U sl_25 rfl (by decide) (by decide) [(.slice (some ⟨bu, offu, none⟩) (cs[i].length) capu)] rfl (by simp [Value.cells]) rfl (cs := [(.slice (some ⟨bu, offu, none⟩) (cs[i].length) capu)]) rfl ?_)
      have hol := fun c hc => hov4.lt hlt4 (c := c) hc
      have hosl : os.length ≤ 64 := by have h1 := hos.1; have h2 := List.length_filter_le (keptC keep) (cs.take i); rw [List.length_take] at h2; omega
      refine wl_op U rfl rfl (op_append1 U (H0 := _) (cs := os) (ys := [(.slice (some ⟨bu, offu, none⟩) (cs[i].length) capu)]) sl_25 rfl (by decide) rfl hov4 (fun hc => by have := hol _ hc; omega) rfl rfl rfl (by omega) (one1 rfl) (by omega) (by omega) ?_)
      intro wA HA NA hNA hslA hfrA hloA
      refine wr U ((ra U).to (v' := wA) rfl) rfl rfl ?_
      refine wz U ?_
      repeat (first|refine nt ?_|refine nq ?_)
      repeat (first|refine nt ?_|refine nq ?_|refine wq U ?_)
      refine wg U ?_
      refine wr U (rd_add U rfl rfl (by omega) (by omega)) rfl rfl ?_
      refine wr U ((rm U).to (v' := (.int .i64 (((i : Nat) : Int) + 1))) rfl) rfl rfl ?_
      refine wz U ?_
      repeat (first|refine nt ?_|refine nq ?_)
      refine ⟨cs.length - (i + 1), by omega, i + 1, wA, os ++ [(.slice (some ⟨bu, offu, none⟩) (cs[i].length) capu)], by omega, rfl, ⟨rfl, rfl, rfl, rfl, rfl, trivial⟩, ?_, hslA, ?_, ?_, by omega⟩
      · intro c o hc; have := hlt3 c o hc; rw [hfrA c (by omega) (fun h => by have := hob _ h; omega), hsn (by omega)]; exact hs4 c o hc
      · intro c hc; obtain ⟨c2, h1, h2, h3⟩ := hloA; rw [h1] at hc; cases hc; rcases h3 with h3 | h3
        · exact hob _ h3
        · omega
      · rw [List.take_succ_eq_append_getElem hi1, List.filter_append, List.filter_cons_of_pos hkc]; exact hos.push U hur
    · skip
      subst hbt
      refine wsk U ?_
      repeat (first|refine nt ?_|refine nq ?_)
      repeat (first|refine nt ?_|refine nq ?_|refine wq U ?_)
      refine wg U ?_
      refine wr U (rd_add U rfl rfl (by omega) (by omega)) rfl rfl ?_
      refine wr U ((rm U).to (v' := (.int .i64 (((i : Nat) : Int) + 1))) rfl) rfl rfl ?_
      refine wz U ?_
      repeat (first|refine nt ?_|refine nq ?_)
      refine ⟨cs.length - (i + 1), by omega, i + 1, ov, os, by omega, rfl, ⟨rfl, rfl, rfl, rfl, rfl, trivial⟩, hs4, hov4, hob, ?_, hN4⟩
      rw [List.take_succ_eq_append_getElem hi1, List.filter_append, List.filter_cons_of_neg (by rw [hkc]; decide), List.filter_nil, List.append_nil]; exact hos
  · replace hck := of_decide_eq_false hck
    refine wc_exit U ?_
    repeat (first|refine xt ?_|refine xps (by decide) ?_)
    refine xbl ?_
    repeat (first|refine nt ?_|refine nq ?_)
    have hie : i = cs.length := by omega
    rw [hie, List.take_length] at hos
    repeat (first|refine nt ?_|refine nq ?_|refine wq U ?_)
    refine wg U ?_
    refine wr U ((rm U).to (v' := ov) rfl) rfl rfl ?_
    refine wr U ((ra U).to (v' := ov) rfl) rfl rfl ?_
    refine wr U ((ra U).to (v' := (.int .i64 0)) rfl) rfl rfl ?_
    refine wz U ?_
    refine wc_ret U ?_
    repeat (first|refine ret1 ?_|refine ret2 ?_)
    exact end2 U (.inl rfl) rfl (v := ov) (v' := (.int .i64 0)) rfl rfl ⟨_, cs, rfl, hcs, (hos.sub U hs4).rd2 U (hov4.rds U (fun b o e => (hlt4 b o e).1)), (hsR.trans hs13).trans hs4, by omega⟩
end Go.Proofs.YtdmodppoellbkaaGreat
namespace Go.Proofs.YtdmodppoellbkaaGreat
open Go Go.RowKit
variable (U : Cx)
theorem s39 (sv : Value) (cs : List Value) (h1 : ∀ u ∈ cs, u.oneCell' = true) (hl : cs.length ≤ 3000000) (H : Hp) (N : Nat) (hv : RdS U H sv 3 cs) : Spec U 39 #[sv] H N (fun v H' N' => IsSl H' v 43 3 cs ∧ (∀ c, blkOf v = some c → N ≤ c) ∧ Sub H H' ∧ N ≤ N') := by
  obtain ⟨p, k, cap, rfl, hkc, hkl, hp⟩ := hv.out U
  refine spa U pf_39 (m := 8) rfl rfl (by simp) fun hBN hlt => ?_
  obtain ⟨J, hJ⟩ := Has.ex (T := argsT #[(.slice p k cap)]) (l := [(0, (.slice p k cap))]) ⟨rfl, trivial⟩
  rw [hJ]; clear hJ
  repeat (first|refine nt ?_|refine nq ?_|refine wq U ?_)
  refine wg U ?_
  refine wr U ((ra U).to (v' := (.slice none 0 0)) rfl) rfl rfl ?_
  refine wz U ?_
  repeat (first|refine nt ?_|refine nq ?_|refine wq U ?_)
  refine wg U ?_
  refine wr U ((rm U).to (v' := (.slice p k cap)) rfl) rfl rfl ?_
  refine wr U ((rd_eqlNil U sl_22.u rfl rfl).to (v' := (.bool p.isNone)) rfl) rfl rfl ?_
  refine wz U ?_
  repeat (first|refine nt ?_|refine nq ?_|refine wq U ?_)
  refine wcd U (t := p.isNone) rfl (fun hn => ?_) fun hn => ?_
  · skip
    repeat (first|refine nt ?_|refine nq ?_|refine wq U ?_)
    refine wg U ?_
    refine wr U ((ra U).to (v' := (.slice none 0 0)) rfl) rfl rfl ?_
    refine wz U ?_
    have hk0 : k = 0 := by rcases Nat.eq_zero_or_pos k with h | h; exact h; obtain ⟨b, off, rfl⟩ := hp h; cases hn
    subst hk0
    have hc0 : cs = [] := List.eq_nil_of_length_eq_zero (by omega)
    subst hc0
    refine wc_ret U ?_
    repeat (first|refine ret1 ?_|refine ret2 ?_)
    exact end1 U (.inl rfl) rfl (v := (.slice none 0 0)) rfl ⟨.inl ⟨rfl, rfl⟩, (fun c hc => by cases hc), Sub.refl _, Nat.le_refl _⟩
  · skip
    refine wsk U ?_
    repeat (first|refine nt ?_|refine nq ?_|refine wq U ?_)
    refine wg U ?_
    refine wl_op U rfl rfl (op_buildSlice0 U sl_22 ?_)
    refine wr U ((rm U).to (v' := (.slice p k cap)) rfl) rfl rfl ?_
    rcases Nat.eq_zero_or_pos k with hk | hk
    · subst hk
      have hc0 : cs = [] := List.eq_nil_of_length_eq_zero (by omega)
      subst hc0
      refine wr U (rd_append0 U (len2 := 0) sl_22 rfl (Nat.le_refl _) rfl) rfl rfl ?_
      refine wr U ((ra U).to (v' := (.slice (some ⟨N, 0, none⟩) 0 0)) rfl) rfl rfl ?_
      refine wz U ?_
      refine wc_ret U ?_
      repeat (first|refine ret1 ?_|refine ret2 ?_)
      exact end1 U (.inl rfl) rfl (v := (.slice (some ⟨N, 0, none⟩) 0 0)) rfl ⟨.inr ⟨N, 0, 0, 0, 0, rfl, hsy, by simp, Nat.le_refl _, Nat.le_refl _⟩, (fun c hc => by cases hc; exact Nat.le_refl _), (Sub.refl _).hset (fresh hlt (by omega)), by omega⟩
    · obtain ⟨bs, off, rfl⟩ := hp hk
      have hv2 := hv.sub U ((Sub.refl _).hset (o := .row 43 0 [] 0) (fresh hlt (Nat.le_refl N)))
      refine wl_op U rfl rfl (op_appendF U (v := .slice (some ⟨N, 0, none⟩) 0 0) (cs := []) sl_22 rfl (by decide) rfl (.inr ⟨N, 0, 0, 0, 0, rfl, hsy, by simp, Nat.le_refl _, Nat.le_refl _⟩) rfl hkl (fun j u hu => hv2.get U hu) h1 hk (by rw [List.length_nil]; omega) (by rw [List.length_nil]; omega) ?_)
      intro wA HA NA hNA hslA hfrA hloA
      refine wr U ((ra U).to (v' := wA) rfl) rfl rfl ?_
      refine wz U ?_
      have hq1 : ∀ c, blkOf wA = some c → N ≤ c := by intro c hc; obtain ⟨c2, h1, h2, h3⟩ := hloA; rw [h1] at hc; cases hc; simp only [blkOf, Option.some.injEq] at h3; omega
      have hq2 : Sub H HA := by intro c o hc; have := hlt c o hc; rw [hfrA c (by omega) (fun h => by simp only [blkOf, Option.some.injEq] at h; omega), hsn (by omega)]; exact hc
      refine wc_ret U ?_
      repeat (first|refine ret1 ?_|refine ret2 ?_)
      exact end1 U (.inl rfl) rfl (v := wA) rfl ⟨hslA, hq1, hq2, by omega⟩
theorem s95 (sv : Value) (cs : List Value) (h1 : ∀ u ∈ cs, u.oneCell' = true) (hl : cs.length ≤ 3000000) (H : Hp) (N : Nat) (hv : RdS U H sv 1 cs) : Spec U 95 #[sv] H N (fun v H' N' => IsSl H' v 3 1 cs ∧ (∀ c, blkOf v = some c → N ≤ c) ∧ Sub H H' ∧ N ≤ N') := by
  obtain ⟨p, k, cap, rfl, hkc, hkl, hp⟩ := hv.out U
  refine spa U pf_95 (m := 8) rfl rfl (by simp) fun hBN hlt => ?_
  obtain ⟨J, hJ⟩ := Has.ex (T := argsT #[(.slice p k cap)]) (l := [(0, (.slice p k cap))]) ⟨rfl, trivial⟩
  rw [hJ]; clear hJ
  repeat (first|refine nt ?_|refine nq ?_|refine wq U ?_)
  refine wg U ?_
  refine wr U ((ra U).to (v' := (.slice none 0 0)) rfl) rfl rfl ?_
  refine wz U ?_
  repeat (first|refine nt ?_|refine nq ?_|refine wq U ?_)
  refine wg U ?_
  refine wr U ((rm U).to (v' := (.slice p k cap)) rfl) rfl rfl ?_
  refine wr U ((rd_eqlNil U sl_26.u rfl rfl).to (v' := (.bool p.isNone)) rfl) rfl rfl ?_
  refine wz U ?_
  repeat (first|refine nt ?_|refine nq ?_|refine wq U ?_)
  refine wcd U (t := p.isNone) rfl (fun hn => ?_) fun hn => ?_
  · skip
    repeat (first|refine nt ?_|refine nq ?_|refine wq U ?_)
    refine wg U ?_
    refine wr U ((ra U).to (v' := (.slice none 0 0)) rfl) rfl rfl ?_
    refine wz U ?_
    have hk0 : k = 0 := by rcases Nat.eq_zero_or_pos k with h | h; exact h; obtain ⟨b, off, rfl⟩ := hp h; cases hn
    subst hk0
    have hc0 : cs = [] := List.eq_nil_of_length_eq_zero (by omega)
    subst hc0
    refine wc_ret U ?_
    repeat (first|refine ret1 ?_|refine ret2 ?_)
    exact end1 U (.inl rfl) rfl (v := (.slice none 0 0)) rfl ⟨.inl ⟨rfl, rfl⟩, (fun c hc => by cases hc), Sub.refl _, Nat.le_refl _⟩
  · skip
    refine wsk U ?_
    repeat (first|refine nt ?_|refine nq ?_|refine wq U ?_)
    refine wg U ?_
    refine wl_op U rfl rfl (op_buildSlice0 U sl_26 ?_)
    refine wr U ((rm U).to (v' := (.slice p k cap)) rfl) rfl rfl ?_
    rcases Nat.eq_zero_or_pos k with hk | hk
    · subst hk
      have hc0 : cs = [] := List.eq_nil_of_length_eq_zero (by omega)
      subst hc0
      refine wr U (rd_append0 U (len2 := 0) sl_26 rfl (Nat.le_refl _) rfl) rfl rfl ?_
      refine wr U ((ra U).to (v' := (.slice (some ⟨N, 0, none⟩) 0 0)) rfl) rfl rfl ?_
      refine wz U ?_
      refine wc_ret U ?_
      repeat (first|refine ret1 ?_|refine ret2 ?_)
      exact end1 U (.inl rfl) rfl (v := (.slice (some ⟨N, 0, none⟩) 0 0)) rfl ⟨.inr ⟨N, 0, 0, 0, 0, rfl, hsy, by simp, Nat.le_refl _, Nat.le_refl _⟩, (fun c hc => by cases hc; exact Nat.le_refl _), (Sub.refl _).hset (fresh hlt (by omega)), by omega⟩
    · obtain ⟨bs, off, rfl⟩ := hp hk
      have hv2 := hv.sub U ((Sub.refl _).hset (o := .row 3 0 [] 0) (fresh hlt (Nat.le_refl N)))
      refine wl_op U rfl rfl (op_appendF U (v := .slice (some ⟨N, 0, none⟩) 0 0) (cs := []) sl_26 rfl (by decide) rfl (.inr ⟨N, 0, 0, 0, 0, rfl, hsy, by simp, Nat.le_refl _, Nat.le_refl _⟩) rfl hkl (fun j u hu => hv2.get U hu) h1 hk (by rw [List.length_nil]; omega) (by rw [List.length_nil]; omega) ?_)
      intro wA HA NA hNA hslA hfrA hloA
      refine wr U ((ra U).to (v' := wA) rfl) rfl rfl ?_
      refine wz U ?_
      have hq1 : ∀ c, blkOf wA = some c → N ≤ c := by intro c hc; obtain ⟨c2, h1, h2, h3⟩ := hloA; rw [h1] at hc; cases hc; simp only [blkOf, Option.some.injEq] at h3; omega
      have hq2 : Sub H HA := by intro c o hc; have := hlt c o hc; rw [hfrA c (by omega) (fun h => by simp only [blkOf, Option.some.injEq] at h; omega), hsn (by omega)]; exact hc
      refine wc_ret U ?_
      repeat (first|refine ret1 ?_|refine ret2 ?_)
      exact end1 U (.inl rfl) rfl (v := wA) rfl ⟨hslA, hq1, hq2, by omega⟩
theorem edges_sorted {es es' : List NE} (h : es.Pairwise ltE) (hp : es'.Perm es) (hs : es'.Pairwise (fun a b => ¬ ltE b a)) : es' = es := by
  refine hp.eq_of_pairwise (le := fun a b => ¬ ltE b a) ?_ hs (h.imp fun h => by unfold ltE at *; omega)
  intro a b ha hb h1 h2
  have ha := hp.mem_iff.1 ha
  obtain ⟨i, hi, rfl⟩ := List.getElem_of_mem ha
  obtain ⟨j, hj, rfl⟩ := List.getElem_of_mem hb
  rcases Nat.lt_trichotomy i j with h' | h' | h'
  · exact absurd (List.pairwise_iff_getElem.1 h i j hi hj h') h2
  · subst h'; rfl
  · exact absurd (List.pairwise_iff_getElem.1 h j i hj hi h') h1
theorem set_same' {cs : List Value} {k : Nat} {v : Value} (h : cs[k]? = some v) : cs.set k v = cs := by
  apply List.ext_getElem?
  intro j; rw [List.getElem?_set]; split
  · rename_i hj; subst hj
    split
    · exact h.symm
    · rename_i hk; rw [List.getElem?_eq_none (by omega)] at h; cases h
  · rfl
theorem IsSl.row {H : Hp} {p : Option Addr} {k cap e sz : Nat} {cs : List Value} (h : IsSl H (.slice p k cap) e sz cs) (hk : 0 < cs.length) : ∃ b off tot, p = some ⟨b, off, none⟩ ∧ H b = some (.row e off cs tot) := by
  rcases h with ⟨h, h0⟩ | ⟨b, off, k', cap', tot, heq, h2, _⟩
  · subst h0; simp at hk
  · cases heq; exact ⟨b, off, tot, rfl, h2⟩
theorem s20 (n : Nat) (es : List NE) (sv : Value) (hg : GOk n es) (H : Hp) (N : Nat) (hv : RdS U H sv 3 (necs es)) : Spec U 20 #[(.int .i64 ((n : Nat) : Int)), sv] H N (fun v H' N' => ∃ ov, v = .tuple #[.agg #[.int .i64 ((n : Nat) : Int), ov], .int .i64 0] ∧ RdS U H' ov 3 (necs es) ∧ Sub H H' ∧ N ≤ N') := by
  obtain ⟨p, cap, rfl, hc, hp⟩ := hv.edges U
  refine spa U pf_20 (m := 82) rfl rfl (by simp) fun hBN hlt => ?_
  obtain ⟨J, hJ⟩ := Has.ex (T := argsT #[(.int .i64 ((n : Nat) : Int)), (.slice p es.length cap)]) (l := [(0, (.int .i64 ((n : Nat) : Int))), (1, (.slice p es.length cap))]) ⟨rfl, rfl, trivial⟩
  rw [hJ]; clear hJ
  have hn64 := hg.hn; have hm := hg.hm
  repeat (first|refine nt ?_|refine nq ?_|refine wq U ?_)
  refine wg U ?_
  refine wl_op U rfl rfl (op_alloc U z_24 rfl ?_)
  refine wr U ((ra U).to (v' := (.int .i64 0)) rfl) rfl rfl ?_
  refine wz U ?_
  repeat (first|refine nt ?_|refine nq ?_|refine wq U ?_)
  refine wg U ?_
  refine wr U ((rm U).to (v' := (.int .i64 ((n : Nat) : Int))) rfl) rfl rfl ?_
  refine wr U ((rm U).to (v' := (.slice p es.length cap)) rfl) rfl rfl ?_
  refine wr U ((rd_len' U sl_22 rfl).to (v' := (.int .i64 ((es.length : Nat) : Int))) rfl) rfl rfl ?_
  refine wl_op U rfl rfl (op_call U Tryz.f38 rfl rfl pf_38 (by kernel_rfl) (by kernel_rfl) ((s38 U n es.length (by omega) (by omega) (by omega) _ _).mono U ?_))
  rintro _ _ _ ⟨rfl, rfl, rfl⟩
  refine wr U ((ra U).to (v' := (.int .i64 0)) rfl) rfl rfl ?_
  refine wz U ?_
  repeat (first|refine nt ?_|refine nq ?_|refine wq U ?_)
  refine wg U ?_
  refine wr U ((rm U).to (v' := (.int .i64 0)) rfl) rfl rfl ?_
  refine wr U (rd_neq U rfl rfl) rfl rfl ?_
  refine wz U ?_
  repeat (first|refine nt ?_|refine nq ?_|refine wq U ?_)
  refine wcd U (t := false) rfl (fun h => nomatch h) fun _ => ?_
  refine wsk U ?_
  refine wc_gen U (fun R => R N = some (.row 24 0 [(.int .i64 0), (.slice none 0 0)] 2) ∧ Sub _ R) ⟨(by first|(rw [hsy]; done) | (rw [hsy]; rfl)), ((Sub.refl _).hset (fresh hlt (by omega)))⟩ ?_
  rintro R ⟨hx_1, hsR⟩ hBNR hltR
  repeat (first|refine nt ?_|refine nq ?_|refine wq U ?_)
  refine wg U ?_
  refine wr U ((rm U).to (v' := (.slice p es.length cap)) rfl) rfl rfl ?_
  refine wl_op U rfl rfl (op_call U Tryz.f39 rfl rfl pf_39 (by kernel_rfl) (by kernel_rfl) ((s39 U _ (necs es) (necs_one es) (by rw [necs_length]; omega) R _ (hv.sub U hsR)).mono U ?_))
  rintro cv R1 N1 ⟨hcv, hcb, hs1, hN1⟩
  have hx_2 := hs1 N _ hx_1
  have hs_3 := (Sub.refl _).trans hs1
  refine wl_own U fun hBN1 hlt1 => ?_
  obtain ⟨pc, capc, rfl, hcc, hpc⟩ := (hcv.rds U (fun b o e => (hlt1 b o e).1)).edges U
  refine wr U ((ra U).to (v' := (.slice pc es.length capc)) rfl) rfl rfl ?_
  refine wz U ?_
  repeat (first|refine nt ?_|refine nq ?_|refine wq U ?_)
  refine wg U ?_
  refine wr U ((rm U).to (v' := (.slice pc es.length capc)) rfl) rfl rfl ?_
  refine wr U ((rd_len' U sl_22 rfl).to (v' := (.int .i64 ((es.length : Nat) : Int))) rfl) rfl rfl ?_
  refine wr U ((rm U).to (v' := (.int .i64 0)) rfl) rfl rfl ?_
  refine wz U ?_
  repeat (first|refine nt ?_|refine nq ?_|refine wq U ?_)
  refine wc_block U ?_
  refine wc_loop U (fun m T H' N' => ∃ (i : Nat), i ≤ es.length ∧ m = es.length - i ∧ Has T [(0, (.int .i64 ((n : Nat) : Int))), (4, (.pointer (some ⟨N, 0, none⟩))), (5, (.int .i64 0)), (7, (.slice pc es.length capc)), (22, (.slice pc es.length capc)), (23, (.int .i64 ((es.length : Nat) : Int))), (24, (.int .i64 ((i : Nat) : Int)))] ∧ Sub R H' ∧ IsSl H' (.slice pc es.length capc) 43 3 (necs es) ∧ N + 1 ≤ N') es.length ⟨0, Nat.zero_le _, rfl, ⟨rfl, rfl, rfl, rfl, rfl, rfl, rfl, trivial⟩, hs1, hcv, hN1⟩ ?_
  rintro m T H2 N2 ⟨i, hi, rfl, hT, hs2, hcv2, hN2⟩
  obtain ⟨J, rfl⟩ := hT.ex
  refine wc_own U fun hBN2 hlt2 => ?_
  repeat (first|refine nt ?_|refine nq ?_|refine wq U ?_)
  refine wg U ?_
  refine wr U (rd_lss U rfl rfl) rfl rfl ?_
  refine wz U ?_
  repeat (first|refine nt ?_|refine nq ?_|refine wq U ?_)
  refine wcd U (t := (decide (((i : Nat) : Int) < ((es.length : Nat) : Int)))) rfl (fun hck => ?_) fun hck => ?_
  · replace hck := of_decide_eq_true hck
    refine wsk U ?_
    repeat (first|refine nt ?_|refine nq ?_)
    have hi1 : i < es.length := by omega
    have hcr := hcv2.rds U (fun b o e => (hlt2 b o e).1)
    obtain ⟨bc, offc, tot, rfl, hrow⟩ := hcv2.row (by rw [necs_length]; omega)
    have he := hg.at hi1
    have hbcl := hlt2 _ _ hrow
    have hbN := hcb bc rfl
    repeat (first|refine nt ?_|refine nq ?_|refine wq U ?_)
    refine wc_block U ?_
    repeat (first|refine nt ?_|refine nq ?_|refine wq U ?_)
    refine wg U ?_
    refine wr U ((rm U).to (v' := (.int .i64 ((i : Nat) : Int))) rfl) rfl rfl ?_
    refine wr U (rd_idxN U (j := i) sl_22 rfl rfl (by omega)) rfl rfl ?_
    refine wr U (rd_load3 U el_43 rfl (v0 := (.int .i64 ((es[i].1 : Nat) : Int))) (v1 := (.int .i64 ((es[i].2.1 : Nat) : Int))) (v2 := (.int .i64 (es[i].2.2)))  (RdS.e0 U hcr hi1) (RdS.e1 U hcr hi1) (RdS.e2 U hcr hi1)) rfl rfl ?_
    refine wl_op U rfl rfl (op_alloc U z_43 rfl ?_)
    refine wr U ((ra U).to (v' := (.int .i64 ((i : Nat) : Int))) rfl) rfl rfl ?_
    refine wl_op0 U rfl (op_store U (vs := [(.int .i64 ((es[i].1 : Nat) : Int)), (.int .i64 ((es[i].2.1 : Nat) : Int)), (.int .i64 (es[i].2.2))]) (cs := [(.int .i64 0), (.int .i64 0), (.int .i64 0)]) el_43 rfl rfl rfl rfl (one3 rfl rfl rfl) (by first|(rw [hsy]; done) | (rw [hsy]; rfl)) (by omega) (by simp) ?_)
    refine wz U ?_
    repeat (first|refine nt ?_|refine nq ?_|refine wq U ?_)
    refine wg U ?_
    refine wr U ((rm U).to (v' := (.int .i64 ((n : Nat) : Int))) rfl) rfl rfl ?_
    refine wr U (rd_load3 U el_43 rfl (v0 := (.int .i64 ((es[i].1 : Nat) : Int))) (v1 := (.int .i64 ((es[i].2.1 : Nat) : Int))) (v2 := (.int .i64 (es[i].2.2)))  (by rw [rhq U (by omega)]; rfl) (by rw [rhq U (by omega)]; rfl) (by rw [rhq U (by omega)]; rfl)) rfl rfl ?_
    refine wl_op U rfl rfl (op_call U Tryz.f40 rfl rfl pf_40 (by kernel_rfl) (by kernel_rfl) ((s40 U n es[i].1 es[i].2.1 es[i].2.2 (by omega) (by omega) (by omega) (by omega) (by omega) _ _).mono U ?_))
    rintro _ H3 N3 ⟨rfl, hs3, hN3⟩
    have hx_4 := hs3 N2 _ (by first|(rw [hsy]; done) | (rw [hsy]; rfl))
    have hs_5 := (((Sub.refl _).hset (fresh hlt2 (by omega))).hset (fresh hlt2 (by omega))).trans hs3
    refine wr U ((ra U).to (v' := (.int .i64 0)) rfl) rfl rfl ?_
    refine wz U ?_
    repeat (first|refine nt ?_|refine nq ?_|refine wq U ?_)
    refine wg U ?_
    refine wr U ((rm U).to (v' := (.int .i64 0)) rfl) rfl rfl ?_
    refine wr U (rd_neq U rfl rfl) rfl rfl ?_
    refine wz U ?_
    repeat (first|refine nt ?_|refine nq ?_|refine wq U ?_)
    refine wcd U (t := false) rfl (fun h => nomatch h) fun _ => ?_
    refine wsk U ?_
    have hrow3 := hs_5 _ _ hrow
    have hq := necs_get es hi1
    repeat (first|refine nt ?_|refine nq ?_|refine wq U ?_)
    obtain ⟨R_6, hR_6⟩ : ∃ R, ofl [(N2, .row 43 0 [(.int .i64 ((es[i].1 : Nat) : Int)), (.int .i64 ((es[i].2.1 : Nat) : Int)), (.int .i64 (es[i].2.2))] 3)] = R := ⟨_, rfl⟩
    have hsR_6 : ∀ {X : Hp}, X N2 = some (.row 43 0 [(.int .i64 ((es[i].1 : Nat) : Int)), (.int .i64 ((es[i].2.1 : Nat) : Int)), (.int .i64 (es[i].2.2))] 3) → Sub R_6 X := fun {X} h0 => hR_6 ▸ sub_ofl (H := X) (by intro p hp; simp only [List.mem_cons, List.not_mem_nil, or_false] at hp; rcases hp with rfl <;> assumption)
    have hx_7 : R_6 N2 = some (.row 43 0 [(.int .i64 ((es[i].1 : Nat) : Int)), (.int .i64 ((es[i].2.1 : Nat) : Int)), (.int .i64 (es[i].2.2))] 3) := by rw [← hR_6]; exact hsy
    refine wc_draw U R_6 mixed ?_
    refine wh_rd U 0 rfl ((rm U).to (v' := (.slice (some ⟨bc, offc, none⟩) es.length capc)) rfl) (by kernel_rfl) (by kernel_rfl) (by kernel_rfl) rfl rfl (hsR_6 hx_4) ?_
    refine wh_rd U 1 rfl ((rm U).to (v' := (.int .i64 ((i : Nat) : Int))) rfl) (by kernel_rfl) (by kernel_rfl) (by kernel_rfl) rfl rfl (hsR_6 hx_4) ?_
    refine wh_rd U 2 rfl ((rm U).to (v' := (.slice (some ⟨bc, offc, none⟩) es.length capc)) rfl) (by kernel_rfl) (by kernel_rfl) (by kernel_rfl) rfl rfl (hsR_6 hx_4) ?_
    refine wh_rd U 3 rfl ((rm U).to (v' := (.int .i64 ((i : Nat) : Int))) rfl) (by kernel_rfl) (by kernel_rfl) (by kernel_rfl) rfl rfl (hsR_6 hx_4) ?_
    refine wh_rd U 4 rfl ((rfa U fb_43_0 rfl).to (v' := (.pointer (some ⟨N2, 0, none⟩))) rfl) (by kernel_rfl) (by kernel_rfl) (by kernel_rfl) rfl rfl (hsR_6 hx_4) ?_
    refine wh_rd U 5 rfl (rl1 U el_3 rfl (v := (.int .i64 ((es[i].1 : Nat) : Int))) (by rw [rrw U (by omega) hx_7]; rfl)) (by kernel_rfl) (by kernel_rfl) (by kernel_rfl) rfl rfl (hsR_6 hx_4) ?_
    refine wh_rd U 6 rfl ((rfa U fb_43_1 rfl).to (v' := (.pointer (some ⟨N2, 1, none⟩))) rfl) (by kernel_rfl) (by kernel_rfl) (by kernel_rfl) rfl rfl (hsR_6 hx_4) ?_
    refine wh_rd U 7 rfl (rl1 U el_3 rfl (v := (.int .i64 ((es[i].2.1 : Nat) : Int))) (by rw [rrw U (by omega) hx_7]; rfl)) (by kernel_rfl) (by kernel_rfl) (by kernel_rfl) rfl rfl (hsR_6 hx_4) ?_
    refine wh_rd U 8 rfl ((rd_min U rfl rfl).to (v' := (.int .i64 ((es[i].1 : Nat) : Int))) (congrArg (Value.int .i64) (by omega))) (by kernel_rfl) (by kernel_rfl) (by kernel_rfl) rfl rfl (hsR_6 hx_4) ?_
    refine wh_rd U 9 rfl ((rfa U fb_43_0 rfl).to (v' := (.pointer (some ⟨N2, 0, none⟩))) rfl) (by kernel_rfl) (by kernel_rfl) (by kernel_rfl) rfl rfl (hsR_6 hx_4) ?_
    refine wh_rd U 10 rfl (rl1 U el_3 rfl (v := (.int .i64 ((es[i].1 : Nat) : Int))) (by rw [rrw U (by omega) hx_7]; rfl)) (by kernel_rfl) (by kernel_rfl) (by kernel_rfl) rfl rfl (hsR_6 hx_4) ?_
    refine wh_rd U 11 rfl ((rfa U fb_43_1 rfl).to (v' := (.pointer (some ⟨N2, 1, none⟩))) rfl) (by kernel_rfl) (by kernel_rfl) (by kernel_rfl) rfl rfl (hsR_6 hx_4) ?_
    refine wh_rd U 12 rfl (rl1 U el_3 rfl (v := (.int .i64 ((es[i].2.1 : Nat) : Int))) (by rw [rrw U (by omega) hx_7]; rfl)) (by kernel_rfl) (by kernel_rfl) (by kernel_rfl) rfl rfl (hsR_6 hx_4) ?_
    refine wh_rd U 13 rfl ((rd_max U rfl rfl).to (v' := (.int .i64 ((es[i].2.1 : Nat) : Int))) (congrArg (Value.int .i64) (by omega))) (by kernel_rfl) (by kernel_rfl) (by kernel_rfl) rfl rfl (hsR_6 hx_4) ?_
    refine wh_rd U 14 rfl (rd_idxN U (j := i) sl_22 rfl rfl (by omega)) (by kernel_rfl) (by kernel_rfl) (by kernel_rfl) rfl rfl (hsR_6 hx_4) ?_
    refine wh_rd U 15 rfl ((rfa U fb_43_0 rfl).to (v' := (.pointer (some ⟨bc, offc + i * 3 + 0, none⟩))) rfl) (by kernel_rfl) (by kernel_rfl) (by kernel_rfl) rfl rfl (hsR_6 hx_4) ?_
    refine wh_op0 U 16 (by kernel_rfl) rfl rfl (op_store1 U el_3 rfl rfl rfl rfl hrow3 (by omega) (by rw [necs_length]; omega) ⟨(hsR_6 ((hsn (by omega)).trans hx_4)), ?_⟩)
    refine wh_rd U 17 rfl (rd_idxN U (j := i) sl_22 rfl rfl (by omega)) (by kernel_rfl) (by kernel_rfl) (by kernel_rfl) rfl rfl (hsR_6 ((hsn (by omega)).trans hx_4)) ?_
    refine wh_rd U 18 rfl ((rfa U fb_43_1 rfl).to (v' := (.pointer (some ⟨bc, offc + i * 3 + 1, none⟩))) rfl) (by kernel_rfl) (by kernel_rfl) (by kernel_rfl) rfl rfl (hsR_6 ((hsn (by omega)).trans hx_4)) ?_
    refine wh_op0 U 19 (by kernel_rfl) rfl rfl (op_store1 U el_3 rfl rfl rfl rfl hsy (by omega) (by rw [List.length_set, necs_length]; omega) ⟨(hsR_6 ((hsn (by omega)).trans ((hsn (by omega)).trans hx_4))), ?_⟩)
    refine wh_done U (by kernel_rfl) ?_
    refine wc_gen U (fun Hs => Hs bc = some (.row 43 offc (necs es) tot) ∧ ∀ c, c ≠ bc → Hs c = H3 c) ⟨?_, ?_⟩ ?_
    · rw [hsy]; refine congrArg (fun l => some (Blk.row 43 offc l tot)) ?_
      have e1 : offc + i * 3 + 0 - offc = i * 3 := by omega
      have e2 : offc + i * 3 + 1 - offc = i * 3 + 1 := by omega
      have k1 : (necs es).set (offc + i * 3 + 0 - offc) (.int .i64 ((es[i].1 : Nat) : Int)) = necs es := by rw [e1]; exact set_same' hq.1
      have k2 : (necs es).set (offc + i * 3 + 1 - offc) (.int .i64 ((es[i].2.1 : Nat) : Int)) = necs es := by rw [e2]; exact set_same' hq.2.1
      exact (congrArg (fun l => l.set (offc + i * 3 + 1 - offc) (Value.int .i64 ((es[i].2.1 : Nat) : Int))) k1).trans k2
    · intro c hc; rw [hsn hc, hsn hc]
    rintro H4 ⟨hrow4, hfr4⟩ hBN4 hlt4
    repeat (first|refine nt ?_|refine nq ?_|refine wq U ?_)
    refine wg U ?_
    refine wr U (rd_add U rfl rfl (by omega) (by omega)) rfl rfl ?_
    refine wr U ((rm U).to (v' := (.int .i64 (((i : Nat) : Int) + 1))) rfl) rfl rfl ?_
    refine wz U ?_
    repeat (first|refine nt ?_|refine nq ?_)
    refine ⟨es.length - (i + 1), by omega, i + 1, by omega, rfl, ⟨rfl, rfl, rfl, rfl, rfl, rfl, rfl, trivial⟩, ?_, ?_, by omega⟩
    · intro c o hc; have := hltR c o hc; rw [hfr4 c (by omega)]; exact hs_5 c o (hs2 c o hc)
    · rcases hcv2 with ⟨h, _⟩ | ⟨b0, off0, k0, cap0, tot0, heq, h2, h3, h4, h5⟩
      · cases h
      · cases heq; rw [hrow] at h2; cases h2; exact .inr ⟨bc, offc, es.length, capc, tot, rfl, hrow4, h3, h4, h5⟩
  · replace hck := of_decide_eq_false hck
    refine wc_exit U ?_
    repeat (first|refine xt ?_|refine xps (by decide) ?_)
    refine xbl ?_
    repeat (first|refine nt ?_|refine nq ?_)
    repeat (first|refine nt ?_|refine nq ?_|refine wq U ?_)
    refine wg U ?_
    refine wr U ((rm U).to (v' := (.slice pc es.length capc)) rfl) rfl rfl ?_
    refine wl_op U rfl rfl (op_call U Tryz.f41 rfl rfl pf_41 (by kernel_rfl) (by kernel_rfl) ((s41 U _ es _ _ hcv2 (by omega)).mono U ?_))
    rintro _ H4 N4 ⟨rfl, hN4, hes, hfr4⟩
    obtain ⟨es2, hp1, hp2, hsl4⟩ := hes
    rw [edges_sorted hg.hs hp1 hp2] at hsl4
    refine wz U ?_
    have hs4 : Sub R H4 := fun c o hc => by
      have := hltR c o hc
      rw [hfr4 c (fun h => by have := hcb c h; omega)]; exact hs2 c o hc
    repeat (first|refine nt ?_|refine nq ?_|refine wq U ?_)
    refine wg U ?_
    refine wr U ((rm U).to (v' := (.slice pc es.length capc)) rfl) rfl rfl ?_
    refine wr U ((rd_len' U sl_22 rfl).to (v' := (.int .i64 ((es.length : Nat) : Int))) rfl) rfl rfl ?_
    refine wr U ((rm U).to (v' := (.int .i64 0)) rfl) rfl rfl ?_
    refine wz U ?_
    repeat (first|refine nt ?_|refine nq ?_|refine wq U ?_)
    refine wc_block U ?_
    refine wc_loop U (fun m T H' N' => ∃ (i : Nat), i ≤ es.length ∧ m = es.length - i ∧ Has T [(0, (.int .i64 ((n : Nat) : Int))), (4, (.pointer (some ⟨N, 0, none⟩))), (5, (.int .i64 0)), (7, (.slice pc es.length capc)), (58, (.int .i64 ((es.length : Nat) : Int))), (59, (.int .i64 ((i : Nat) : Int)))] ∧ Sub H4 H' ∧ N4 ≤ N') es.length ⟨0, Nat.zero_le _, rfl, ⟨rfl, rfl, rfl, rfl, rfl, rfl, trivial⟩, Sub.refl _, Nat.le_refl _⟩ ?_
    rintro m T H5 N5 ⟨i, hi, rfl, hT, hs5, hN5⟩
    obtain ⟨J, rfl⟩ := hT.ex
    refine wc_own U fun hBN5 hlt5 => ?_
    repeat (first|refine nt ?_|refine nq ?_|refine wq U ?_)
    refine wg U ?_
    refine wr U (rd_lss U rfl rfl) rfl rfl ?_
    refine wz U ?_
    repeat (first|refine nt ?_|refine nq ?_|refine wq U ?_)
    refine wcd U (t := (decide (((i : Nat) : Int) < ((es.length : Nat) : Int)))) rfl (fun hck => ?_) fun hck => ?_
    · replace hck := of_decide_eq_true hck
      refine wsk U ?_
      repeat (first|refine nt ?_|refine nq ?_)
      have hi1 : i < es.length := by omega
      obtain ⟨bc, offc, rfl⟩ := hpc (by omega)
      have hcr := (hsl4.sub hs5).rds U (fun b o e => (hlt5 b o e).1)
      repeat (first|refine nt ?_|refine nq ?_|refine wq U ?_)
      refine wc_block U ?_
      repeat (first|refine nt ?_|refine nq ?_|refine wq U ?_)
      refine wg U ?_
      refine wr U ((rm U).to (v' := (.int .i64 ((i : Nat) : Int))) rfl) rfl rfl ?_
      refine wr U ((ra U).to (v' := (.int .i64 ((i : Nat) : Int))) rfl) rfl rfl ?_
      refine wz U ?_
      rcases Nat.eq_zero_or_pos i with h0 | h0
      · skip
        repeat (first|refine nt ?_|refine nq ?_|refine wq U ?_)
        refine wc_draw U H5 mixed ?_
        refine wh_rd U 0 rfl ((rm U).to (v' := (.int .i64 ((i : Nat) : Int))) rfl) (by kernel_rfl) (by kernel_rfl) (by kernel_rfl) rfl rfl (Sub.refl _) ?_
        refine wh_rd U 1 rfl ((rd_gtr U rfl rfl).to (v' := (.bool false)) (congrArg Value.bool (decide_eq_false (by omega)))) (by kernel_rfl) (by kernel_rfl) (by kernel_rfl) rfl rfl (Sub.refl _) ?_
        refine wh_rd U 2 rfl ((rm U).to (v' := (.bool false)) rfl) (by kernel_rfl) (by kernel_rfl) (by kernel_rfl) rfl rfl (Sub.refl _) ?_
        refine wh_skip U 3 rfl (by kernel_rfl) (by kernel_rfl) (by kernel_rfl) rfl rfl (Sub.refl _) ?_
        refine wh_skip U 4 rfl (by kernel_rfl) (by kernel_rfl) (by kernel_rfl) rfl rfl (Sub.refl _) ?_
        refine wh_skip U 5 rfl (by kernel_rfl) (by kernel_rfl) (by kernel_rfl) rfl rfl (Sub.refl _) ?_
        refine wh_skip U 6 rfl (by kernel_rfl) (by kernel_rfl) (by kernel_rfl) rfl rfl (Sub.refl _) ?_
        refine wh_skip U 7 rfl (by kernel_rfl) (by kernel_rfl) (by kernel_rfl) rfl rfl (Sub.refl _) ?_
        refine wh_skip U 8 rfl (by kernel_rfl) (by kernel_rfl) (by kernel_rfl) rfl rfl (Sub.refl _) ?_
        refine wh_skip U 9 rfl (by kernel_rfl) (by kernel_rfl) (by kernel_rfl) rfl rfl (Sub.refl _) ?_
        refine wh_skip U 10 rfl (by kernel_rfl) (by kernel_rfl) (by kernel_rfl) rfl rfl (Sub.refl _) ?_
        refine wh_skip U 11 rfl (by kernel_rfl) (by kernel_rfl) (by kernel_rfl) rfl rfl (Sub.refl _) ?_
        refine wh_skip U 12 rfl (by kernel_rfl) (by kernel_rfl) (by kernel_rfl) rfl rfl (Sub.refl _) ?_
        refine wh_skip U 13 rfl (by kernel_rfl) (by kernel_rfl) (by kernel_rfl) rfl rfl (Sub.refl _) ?_
        refine wh_rd U 14 rfl ((rd_pick U rfl).to (v' := (.bool false)) rfl) (by kernel_rfl) (by kernel_rfl) (by kernel_rfl) rfl rfl (Sub.refl _) ?_
        refine wh_done U (by kernel_rfl) ?_
        repeat (first|refine nt ?_|refine nq ?_|refine wq U ?_)
        refine wcd U (t := false) rfl (fun h => nomatch h) fun _ => ?_
        refine wsk U ?_
        repeat (first|refine nt ?_|refine nq ?_)
        repeat (first|refine nt ?_|refine nq ?_|refine wq U ?_)
        refine wg U ?_
        refine wr U (rd_add U rfl rfl (by omega) (by omega)) rfl rfl ?_
        refine wr U ((rm U).to (v' := (.int .i64 (((i : Nat) : Int) + 1))) rfl) rfl rfl ?_
        refine wz U ?_
        repeat (first|refine nt ?_|refine nq ?_)
        exact ⟨es.length - (i + 1), by omega, i + 1, by omega, rfl, ⟨rfl, rfl, rfl, rfl, rfl, rfl, trivial⟩, hs5, hN5⟩
      · have hi2 : i - 1 < es.length := by omega
        have hlE : ltE es[i-1] es[i] := List.pairwise_iff_getElem.1 hg.hs _ _ hi2 hi1 (by omega)
        repeat (first|refine nt ?_|refine nq ?_|refine wq U ?_)
        refine wc_draw U H5 mixed ?_
        refine wh_rd U 0 rfl ((rm U).to (v' := (.int .i64 ((i : Nat) : Int))) rfl) (by kernel_rfl) (by kernel_rfl) (by kernel_rfl) rfl rfl (Sub.refl _) ?_
        refine wh_rd U 1 rfl ((rd_gtr U rfl rfl).to (v' := (.bool true)) (congrArg Value.bool (decide_eq_true (by omega)))) (by kernel_rfl) (by kernel_rfl) (by kernel_rfl) rfl rfl (Sub.refl _) ?_
        refine wh_rd U 2 rfl ((rm U).to (v' := (.bool true)) rfl) (by kernel_rfl) (by kernel_rfl) (by kernel_rfl) rfl rfl (Sub.refl _) ?_
        refine wh_rd U 3 rfl ((rm U).to (v' := (.slice (some ⟨bc, offc, none⟩) es.length capc)) rfl) (by kernel_rfl) (by kernel_rfl) (by kernel_rfl) rfl rfl (Sub.refl _) ?_
        refine wh_rd U 4 rfl ((rm U).to (v' := (.int .i64 ((i : Nat) : Int))) rfl) (by kernel_rfl) (by kernel_rfl) (by kernel_rfl) rfl rfl (Sub.refl _) ?_
        refine wh_rd U 5 rfl (rd_sub' U rfl rfl (by omega) (by omega)) (by kernel_rfl) (by kernel_rfl) (by kernel_rfl) rfl rfl (Sub.refl _) ?_
        refine wh_rd U 6 rfl (rd_idxI U (i-1) sl_22 rfl rfl (by omega) (by omega)) (by kernel_rfl) (by kernel_rfl) (by kernel_rfl) rfl rfl (Sub.refl _) ?_
        refine wh_rd U 7 rfl (rd_load3 U el_43 rfl (v0 := (.int .i64 ((es[i-1].1 : Nat) : Int))) (v1 := (.int .i64 ((es[i-1].2.1 : Nat) : Int))) (v2 := (.int .i64 (es[i-1].2.2)))  (RdS.e0 U hcr hi2) (RdS.e1 U hcr hi2) (RdS.e2 U hcr hi2)) (by kernel_rfl) (by kernel_rfl) (by kernel_rfl) rfl rfl (Sub.refl _) ?_
        refine wh_rd U 8 rfl ((rm U).to (v' := (.slice (some ⟨bc, offc, none⟩) es.length capc)) rfl) (by kernel_rfl) (by kernel_rfl) (by kernel_rfl) rfl rfl (Sub.refl _) ?_
        refine wh_rd U 9 rfl ((rm U).to (v' := (.int .i64 ((i : Nat) : Int))) rfl) (by kernel_rfl) (by kernel_rfl) (by kernel_rfl) rfl rfl (Sub.refl _) ?_
        refine wh_rd U 10 rfl (rd_idxN U (j := i) sl_22 rfl rfl (by omega)) (by kernel_rfl) (by kernel_rfl) (by kernel_rfl) rfl rfl (Sub.refl _) ?_
        refine wh_rd U 11 rfl (rd_load3 U el_43 rfl (v0 := (.int .i64 ((es[i].1 : Nat) : Int))) (v1 := (.int .i64 ((es[i].2.1 : Nat) : Int))) (v2 := (.int .i64 (es[i].2.2)))  (RdS.e0 U hcr hi1) (RdS.e1 U hcr hi1) (RdS.e2 U hcr hi1)) (by kernel_rfl) (by kernel_rfl) (by kernel_rfl) rfl rfl (Sub.refl _) ?_
        refine wh_op U 12 (by kernel_rfl) rfl rfl rfl (op_call U Tryz.f42 rfl rfl pf_42 (by kernel_rfl) (by kernel_rfl) ((s42 U (nE es[i-1]) (nE es[i]) _ _).mono U ?_))
        rintro _ H6 N6 ⟨rfl, hs6, hN6⟩
        refine ⟨hs6, ?_⟩
        have hs_8 := (Sub.refl _).trans hs6
        rw [cmpE_lt hlE]
        refine wh_rd U 13 rfl (rd_eql U rfl rfl) (by kernel_rfl) (by kernel_rfl) (by kernel_rfl) rfl rfl hs6 ?_
        refine wh_rd U 14 rfl ((rd_pick U rfl).to (v' := (.bool false)) rfl) (by kernel_rfl) (by kernel_rfl) (by kernel_rfl) rfl rfl hs6 ?_
        refine wh_done U (by kernel_rfl) ?_
        repeat (first|refine nt ?_|refine nq ?_|refine wq U ?_)
        refine wcd U (t := false) rfl (fun h => nomatch h) fun _ => ?_
        refine wsk U ?_
        repeat (first|refine nt ?_|refine nq ?_)
        repeat (first|refine nt ?_|refine nq ?_|refine wq U ?_)
        refine wg U ?_
        refine wr U (rd_add U rfl rfl (by omega) (by omega)) rfl rfl ?_
        refine wr U ((rm U).to (v' := (.int .i64 (((i : Nat) : Int) + 1))) rfl) rfl rfl ?_
        refine wz U ?_
        repeat (first|refine nt ?_|refine nq ?_)
        exact ⟨es.length - (i + 1), by omega, i + 1, by omega, rfl, ⟨rfl, rfl, rfl, rfl, rfl, rfl, trivial⟩, hs5.trans hs6, by omega⟩
    · replace hck := of_decide_eq_false hck
      refine wc_exit U ?_
      repeat (first|refine xt ?_|refine xps (by decide) ?_)
      refine xbl ?_
      repeat (first|refine nt ?_|refine nq ?_)
      repeat (first|refine nt ?_|refine nq ?_|refine wq U ?_)
      refine wg U ?_
      refine wr U ((rm U).to (v' := (.int .i64 ((n : Nat) : Int))) rfl) rfl rfl ?_
      refine wr U ((rm U).to (v' := (.slice pc es.length capc)) rfl) rfl rfl ?_
      refine wr U (rd_build U (cells := #[(.int .i64 ((n : Nat) : Int)), (.slice pc es.length capc)]) (by unfold P; kernel_rfl)) rfl rfl ?_
      refine wl_op0 U rfl (op_store U (vs := [(.int .i64 ((n : Nat) : Int)), (.slice pc es.length capc)]) (cs := [(.int .i64 0), (.slice none 0 0)]) el_24 rfl rfl rfl rfl (one2 rfl rfl) (hs5 _ _ (hs4 _ _ hx_1)) (by omega) (by simp) ?_)
      refine wr U ((ra U).to (v' := (.int .i64 0)) rfl) rfl rfl ?_
      refine wl_own U fun hBN7 hlt7 => ?_
      refine wz U ?_
      repeat (first|refine nt ?_|refine nq ?_)
      refine wc_ret U ?_
      repeat (first|refine ret1 ?_|refine ret2 ?_)
      have hcr := ((hsl4.sub hs5).at (H' := hset H5 N _) fun c hc => hsn (by have := hcb c hc; omega)).rds U (fun b o e => (hlt7 b o e).1)
      exact endCellT U (v0 := .int .i64 ((n : Nat) : Int)) (v1 := (.slice pc es.length capc)) (v2 := .int .i64 0) (.inl rfl) rfl el_24 rfl rfl (by rw [rhq U (by omega)]; rfl) (by rw [rhq U (by omega)]; rfl) ⟨_, rfl, hcr, ((hsR.trans hs4).trans hs5).hset (fresh hlt (by omega)), by omega⟩
end Go.Proofs.YtdmodppoellbkaaGreat
namespace Go.Proofs.YtdmodppoellbkaaGreat
open Go Go.RowKit
variable (U : Cx)
/-- A set of numbers as a map to true. -/
def km (ks : List Nat) : List (Int × Value) := ks.map fun k => (((k : Nat) : Int), .bool true)
def kmE (ks : List Nat) : List (Value × Value) := encM encI (km ks)
def addK (ks : List Nat) (k : Nat) : List Nat := if k ∈ ks then ks else ks ++ [k]
theorem put_km (ks : List Nat) (k : Nat) : put (km ks) ((k : Nat) : Int) (.bool true) = km (addK ks k) := by
  induction ks with
  | nil => simp [km, put, addK]
  | cons x ks ih =>
    by_cases h : k = x
    · subst h; simp [km, put, addK]
    · have h' : ¬ ((k : Nat) : Int) = ((x : Nat) : Int) := by omega
      simp only [km, List.map_cons, put, if_neg h'] at ih ⊢
      rw [ih]
      unfold addK
      simp only [List.mem_cons, h, false_or]
      split <;> simp
theorem del_km (ks : List Nat) (k : Nat) : del (km ks) ((k : Nat) : Int) = km (ks.erase k) := by
  induction ks with
  | nil => simp [km, del]
  | cons x ks ih =>
    by_cases h : k = x
    · subst h; simp [km, del]
    · have h' : ¬ ((k : Nat) : Int) = ((x : Nat) : Int) := by omega
      have hx : (x == k) = false := by simp; omega
      simp only [km, List.map_cons, del, if_neg h', List.erase_cons, hx] at ih ⊢
      rw [ih]; rfl
theorem kmE_length (ks : List Nat) : (kmE ks).length = ks.length := by simp [kmE, encM, km]
theorem kmE_get {ks : List Nat} {i : Nat} {p : Value × Value} (h : (kmE ks)[i]? = some p) : ∃ k, ks[i]? = some k ∧ p = (.int .i64 ((k : Nat) : Int), .bool true) := by
  simp only [kmE, encM, km, List.map_map, List.getElem?_map] at h
  cases hk : ks[i]? with
  | none => rw [hk] at h; cases h
  | some k => rw [hk] at h; cases h; exact ⟨k, rfl, rfl⟩
/-- The maps of a field, each in a block of its own from 'L' on. -/
structure Fld (H : Hp) (L N : Nat) (vs : List Value) (F : List (Option (List Nat))) : Prop where
  len : vs.length = F.length
  nil : ∀ (i : Nat) (v : Value), vs[i]? = some v → F[i]? = some none → v = .map none
  map : ∀ (i : Nat) (v : Value) (ks : List Nat), vs[i]? = some v → F[i]? = some (some ks) → ∃ c, v = .map (some c) ∧ L ≤ c ∧ c < N ∧ H c = some (.map (kmE ks))
  ne : ∀ (i j : Nat) (c : Nat), vs[i]? = some (.map (some c)) → vs[j]? = some (.map (some c)) → i = j
/-- A field in memory: what was known before is known still. -/
structure Fldo (R H : Hp) (b L n N : Nat) (vs : List Value) (F : List (Option (List Nat))) : Prop where
  f : Fld H L N vs F
  row : H b = some (.row 64 0 vs n)
  len : vs.length = n
  sub : Sub R H
  lt : b < L ∧ L ≤ N
theorem Fld.fresh (H : Hp) (L N n : Nat) : Fld H L N (List.replicate n (.map none)) (List.replicate n none) := by
  have key : ∀ (i : Nat) (v : Value), (List.replicate n (Value.map none))[i]? = some v → v = .map none := by
    intro i v hv; rw [List.getElem?_replicate] at hv; split at hv <;> simp at hv; exact hv.symm
  refine ⟨by simp, fun i v hv _ => key i v hv, fun i v ks hv hc => ?_, fun i j c hv hv' => ?_⟩
  · rw [List.getElem?_replicate] at hc; split at hc <;> simp at hc
  · have := key i _ hv; cases this
theorem Fldo.flen {R H : Hp} {b L n N : Nat} {vs : List Value} {F : List (Option (List Nat))} (h : Fldo R H b L n N vs F) : F.length = n := by rw [← h.f.len, h.len]
theorem Fld.keep {H H2 : Hp} {L N N2 : Nat} {vs : List Value} {F : List (Option (List Nat))} (h : Fld H L N vs F) (hk : ∀ c, L ≤ c → c < N → H2 c = H c) (hN : N ≤ N2) : Fld H2 L N2 vs F :=
  ⟨h.len, h.nil, fun i v ks hv hc => by
    obtain ⟨c, h1, h2, h3, h4⟩ := h.map i v ks hv hc
    exact ⟨c, h1, h2, by omega, by rw [hk c h2 h3]; exact h4⟩, h.ne⟩
theorem Fldo.keep {R H H2 : Hp} {b L n N N2 : Nat} {vs : List Value} {F : List (Option (List Nat))} (h : Fldo R H b L n N vs F) (hR : ∀ c o, R c = some o → U.B ≤ c ∧ c < L ∧ c ≠ b) (hk : ∀ c, c < N → H2 c = H c) (hN : N ≤ N2) : Fldo R H2 b L n N2 vs F :=
  ⟨h.f.keep (fun c _ hc => hk c hc) hN, (hk b (by have := h.lt; omega)).trans h.row, h.len, fun c o hc => by rw [hk c (by have := hR c o hc; have := h.lt; omega)]; exact h.sub c o hc, by have := h.lt; omega⟩
/-- One of the maps is turned. -/
theorem Fldo.turn {R H : Hp} {b L n N i c : Nat} {vs : List Value} {F : List (Option (List Nat))} (h : Fldo R H b L n N vs F) (hR : ∀ c o, R c = some o → U.B ≤ c ∧ c < L ∧ c ≠ b) (hv : vs[i]? = some (.map (some c))) (hc : L ≤ c) (ks : List Nat) (hi : i < n) : Fldo R (hset H c (.map (kmE ks))) b L n N vs (F.set i (some ks)) := by
  have hF : ∀ (j : Nat) (o : Option (List Nat)), (F.set i (some ks))[j]? = some o → (j = i ∧ o = some ks) ∨ (j ≠ i ∧ F[j]? = some o) := by
    intro j o ho
    rw [List.getElem?_set] at ho
    split at ho
    · rename_i hij; subst hij
      split at ho
      · cases ho; exact .inl ⟨rfl, rfl⟩
      · cases ho
    · rename_i hij; exact .inr ⟨fun h => hij h.symm, ho⟩
  have hlt := h.lt
  have hcN : c < N := by
    obtain ⟨o, ho⟩ := get_ex (l := F) (i := i) (by rw [h.flen]; exact hi)
    cases o with
    | none => have := h.f.nil i _ hv ho; cases this
    | some ks' => obtain ⟨c', h1, _, h3, _⟩ := h.f.map i _ ks' hv ho; cases h1; exact h3
  refine ⟨⟨by rw [List.length_set]; exact h.f.len, ?_, ?_, h.f.ne⟩, by rw [hsn (by omega)]; exact h.row, h.len, fun c' o hc' => by have := hR c' o hc'; rw [hsn (by omega)]; exact h.sub c' o hc', h.lt⟩
  · intro j v hvj ho
    rcases hF j none ho with ⟨_, h2⟩ | ⟨_, h2⟩
    · cases h2
    · exact h.f.nil j v hvj h2
  · intro j v ks' hvj ho
    rcases hF j _ ho with ⟨rfl, h2⟩ | ⟨hne, h2⟩
    · cases h2; rw [hv] at hvj; cases hvj
      exact ⟨c, rfl, hc, hcN, hsy⟩
    · obtain ⟨c', h3, h4, h5, h6⟩ := h.f.map j v ks' hvj h2
      subst h3
      refine ⟨c', rfl, h4, h5, ?_⟩
      rw [hsn (by rintro rfl; exact hne (h.f.ne j i c' hvj hv))]; exact h6
/-- A place of the field is set. -/
theorem Fldo.put {R H : Hp} {b L n N i : Nat} {vs : List Value} {F : List (Option (List Nat))} (h : Fldo R H b L n N vs F) (hR : ∀ c o, R c = some o → U.B ≤ c ∧ c < L ∧ c ≠ b) (hi : i < n) {v : Value} {o : Option (List Nat)} {N2 : Nat} {H2 : Hp} (hN : N ≤ N2) (hk : ∀ c, c < N → H2 c = H c)
    (hvo : (v = .map none ∧ o = none) ∨ ∃ c ks, v = .map (some c) ∧ o = some ks ∧ N ≤ c ∧ c < N2 ∧ H2 c = some (.map (kmE ks))) : Fldo R (hset H2 b (.row 64 0 (vs.set i v) n)) b L n N2 (vs.set i v) (F.set i o) := by
  have hlt := h.lt
  have hFl := h.flen
  have hcase : ∀ (j : Nat) (u : Value), (vs.set i v)[j]? = some u → (j = i ∧ u = v) ∨ (j ≠ i ∧ vs[j]? = some u) := by
    intro j u hu
    rw [List.getElem?_set] at hu
    split at hu
    · rename_i hij; subst hij
      split at hu
      · cases hu; exact .inl ⟨rfl, rfl⟩
      · cases hu
    · rename_i hij; exact .inr ⟨fun h => hij h.symm, hu⟩
  have hF : ∀ (j : Nat) (p : Option (List Nat)), (F.set i o)[j]? = some p → (j = i ∧ p = o) ∨ (j ≠ i ∧ F[j]? = some p) := by
    intro j p hp
    rw [List.getElem?_set] at hp
    split at hp
    · rename_i hij; subst hij
      split at hp
      · cases hp; exact .inl ⟨rfl, rfl⟩
      · cases hp
    · rename_i hij; exact .inr ⟨fun h => hij h.symm, hp⟩
  have hbc : ∀ (j : Nat) (c : Nat), vs[j]? = some (.map (some c)) → L ≤ c ∧ c < N := by
    intro j c hj
    have hjn : j < F.length := by
      rw [← h.f.len]
      rcases Nat.lt_or_ge j vs.length with h' | h'
      · exact h'
      · rw [List.getElem?_eq_none h'] at hj; cases hj
    obtain ⟨o', ho'⟩ := get_ex hjn
    cases o' with
    | none => have := h.f.nil j _ hj ho'; cases this
    | some ks => obtain ⟨c', h1, h2, h3, _⟩ := h.f.map j _ ks hj ho'; cases h1; exact ⟨h2, h3⟩
  refine ⟨⟨by simp [h.f.len], ?_, ?_, ?_⟩, hsy, by simp [h.len], fun c' o hc' => by have := hR c' o hc'; rw [hsn (by omega), hk c' (by omega)]; exact h.sub c' o hc', by omega⟩
  · intro j u hu hp
    rcases hcase j u hu with ⟨rfl, rfl⟩ | ⟨hne, hu'⟩ <;> rcases hF j none hp with ⟨h1, h2⟩ | ⟨h1, h2⟩
    · rcases hvo with ⟨h3, _⟩ | ⟨c, ks, _, h4, _⟩
      · exact h3
      · rw [h4] at h2; cases h2
    · exact absurd rfl h1
    · exact absurd h1 hne
    · exact h.f.nil j u hu' h2
  · intro j u ks hu hp
    rcases hcase j u hu with ⟨rfl, rfl⟩ | ⟨hne, hu'⟩ <;> rcases hF j (some ks) hp with ⟨h1, h2⟩ | ⟨h1, h2⟩
    · rcases hvo with ⟨_, h4⟩ | ⟨c, ks', h3, h4, h5, h6, h7⟩
      · rw [h4] at h2; cases h2
      · rw [h4] at h2; cases h2
        exact ⟨c, h3, by omega, h6, by rw [hsn (by omega)]; exact h7⟩
    · exact absurd rfl h1
    · exact absurd h1 hne
    · obtain ⟨c, h3, h4, h5, h6⟩ := h.f.map j u ks hu' h2
      exact ⟨c, h3, h4, by omega, by rw [hsn (by omega), hk c h5]; exact h6⟩
  · intro j l c hj hl
    rcases hcase j _ hj with ⟨rfl, h1⟩ | ⟨h1, hj'⟩ <;> rcases hcase l _ hl with ⟨rfl, h2⟩ | ⟨h2, hl'⟩
    · rfl
    · exfalso
      rcases hvo with ⟨h3, _⟩ | ⟨c', ks', h3, _, h5, _⟩
      · rw [h3] at h1; cases h1
      · rw [h3] at h1; cases h1; have := hbc l c hl'; omega
    · exfalso
      rcases hvo with ⟨h3, _⟩ | ⟨c', ks', h3, _, h5, _⟩
      · rw [h3] at h2; cases h2
      · rw [h3] at h2; cases h2; have := hbc j c hj'; omega
    · exact h.f.ne j l c hj' hl'
end Go.Proofs.YtdmodppoellbkaaGreat
namespace Go.Proofs.YtdmodppoellbkaaGreat
open Go Go.RowKit
variable (U : Cx)
theorem Fldo.base {R R' H : Hp} {b L n N : Nat} {vs : List Value} {F : List (Option (List Nat))} (h : Fldo R H b L n N vs F) (hs : Sub R' R) : Fldo R' H b L n N vs F := ⟨h.f, h.row, h.len, hs.trans h.sub, h.lt⟩
theorem Fldo.at {R H : Hp} {b L n N i : Nat} {vs : List Value} {F : List (Option (List Nat))} {ks : List Nat} (h : Fldo R H b L n N vs F) (hi : F[i]? = some (some ks)) : ∃ c, vs[i]? = some (.map (some c)) ∧ L ≤ c ∧ c < N ∧ H c = some (.map (kmE ks)) := by
  have hil : i < vs.length := by
    rw [h.f.len]
    rcases Nat.lt_or_ge i F.length with h' | h'
    · exact h'
    · rw [List.getElem?_eq_none h'] at hi; cases hi
  obtain ⟨v, hv⟩ := get_ex hil
  obtain ⟨c, rfl, h2, h3, h4⟩ := h.f.map i v ks hv hi
  exact ⟨c, hv, h2, h3, h4⟩
def mapF (X : List (List Nat)) (n k : Nat) : List (Option (List Nat)) := (X.take k).map some ++ List.replicate (n - k) none
theorem mapF_succ {X : List (List Nat)} {n k : Nat} (hX : X.length = n) (hk : k < n) : (mapF X n k).set k (some (X[k]'(by omega))) = mapF X n (k + 1) := by
  unfold mapF
  rw [List.set_append_right _ _ (by simp; omega), List.take_succ_eq_append_getElem (by omega)]
  simp only [List.length_map, List.length_take, List.map_append, List.append_assoc, List.map_cons, List.map_nil]
  rw [Nat.min_eq_left (by omega), Nat.sub_self, show n - k = n - (k + 1) + 1 by omega, List.replicate_succ]; rfl
theorem mapF_all {X : List (List Nat)} {n : Nat} (hX : X.length = n) : mapF X n n = X.map some := by
  unfold mapF; rw [List.take_of_length_le (by omega), Nat.sub_self]; simp
theorem mapF_length {X : List (List Nat)} {n k : Nat} (hX : X.length = n) (hk : k ≤ n) : (mapF X n k).length = n := by unfold mapF; simp; omega
theorem set_set {α : Type} (l : List α) (i : Nat) (a b : α) : (l.set i a).set i b = l.set i b := by simp
theorem addK_take {xs : List Nat} (h : xs.Nodup) {j : Nat} (hj : j < xs.length) : addK (xs.take j) xs[j] = xs.take (j + 1) := by
  rw [List.take_succ_eq_append_getElem hj, addK, if_neg]
  intro hm
  obtain ⟨i, hi, he⟩ := List.getElem_of_mem hm
  rw [List.getElem_take] at he
  rw [List.length_take] at hi
  have := (List.pairwise_iff_getElem.1 h) i j (by omega) hj (by omega)
  exact this he
theorem near_nodup {n : Nat} {E : List NE} (hg : GOk n E) : ∀ xs ∈ nearL n E, xs.Nodup := by
  have key : ∀ k, k ≤ E.length → ∀ xs ∈ nearAcc n (E.take k), xs.Nodup := by
    intro k
    induction k with
    | zero => intro _ xs hx; rw [List.take_zero, nearAcc, List.foldl_nil, List.mem_replicate] at hx; rw [hx.2]; simp
    | succ k ih =>
      intro hk xs hx
      have hk' : k < E.length := by omega
      have he := hg.at hk'
      rw [nearAcc_succ n E hk'] at hx
      have step : ∀ (X : List (List Nat)) (u y : Nat), X.length = n → u < n → (∀ xs ∈ X, xs.Nodup) → y ∉ X.getD u [] → ∀ xs ∈ addN X u y, xs.Nodup := by
        intro X u y hX hu h hy xs hx
        rcases List.mem_or_eq_of_mem_set hx with h1 | h1
        · exact h xs h1
        · subst h1
          rw [List.nodup_append]
          refine ⟨?_, by simp, ?_⟩
          · obtain ⟨ys, hys⟩ := get_ex (l := X) (i := u) (by omega)
            rw [List.getD_eq_getElem?_getD, hys]; exact h ys (List.mem_of_getElem? hys)
          · intro a ha b hb; simp at hb; subst hb; rintro rfl; exact hy ha
      have no : ∀ i, i < k → ∀ h : i < E.length, ¬ (E[i].1 = E[k].1 ∧ E[i].2.1 = E[k].2.1) := by
        intro i hi h ⟨h1, h2⟩
        have := (List.pairwise_iff_getElem.1 hg.hs) i k h hk' hi
        unfold ltE at this; omega
      have ho : ∀ i, ∀ h : i < E.length, ¬ (E[i].1 = E[k].2.1 ∧ E[i].2.1 = E[k].1) := by
        intro i h ⟨h1, h2⟩; have := hg.at h; omega
      have h1 : E[k].2.1 ∉ (nearAcc n (E.take k)).getD E[k].1 [] := by
        rw [nearAcc_mem hg (by omega)]
        rintro ⟨i, h, hik, ⟨h2, h3⟩ | ⟨h2, h3⟩⟩
        · exact no i hik h ⟨h2, h3⟩
        · exact ho i h ⟨h3, h2⟩
      have h2 : E[k].1 ∉ (addN (nearAcc n (E.take k)) E[k].1 E[k].2.1).getD E[k].2.1 [] := by
        rw [mem_addN (by rw [nearAcc_length]; omega), nearAcc_mem hg (by omega)]
        rintro (⟨i, h, hik, ⟨h2, h3⟩ | ⟨h2, h3⟩⟩ | ⟨h2, h3⟩)
        · exact ho i h ⟨h2, h3⟩
        · exact no i hik h ⟨h3, h2⟩
        · omega
      exact step _ _ _ (by rw [addN_length, nearAcc_length]) (by omega) (step _ _ _ (nearAcc_length _ _) (by omega) (ih (by omega)) h1) h2 xs hx
  intro xs hx
  obtain ⟨ys, hy, rfl⟩ := List.mem_map.1 hx
  have := key E.length (Nat.le_refl _) ys (by rw [List.take_length]; exact hy)
  exact (sortN_perm ys).nodup_iff.2 this
theorem s89 (n : Nat) (E : List NE) (sv : Value) (hg : GOk n E) (H : Hp) (N : Nat) (hv : RdS U H sv 3 (necs E)) : Spec U 89 #[(.agg #[(.int .i64 ((n : Nat) : Int)), sv])] H N (fun v H' N' => ∃ b L vs, v = .slice (some ⟨b, 0, none⟩) n n ∧ N ≤ b ∧ Fldo H H' b L n N' vs ((nearL n E).map some) ∧ N ≤ N') := by
  have hsc : sv.cells.toList = [sv] := by obtain ⟨p, q, cap, rfl, _⟩ := hv; rfl
  refine spa U pf_89 (m := 37) rfl rfl (by simp) fun hBN hlt => ?_
  obtain ⟨J, hJ⟩ := Has.ex (T := argsT #[(.agg #[(.int .i64 ((n : Nat) : Int)), sv])]) (l := [(0, (.agg #[(.int .i64 ((n : Nat) : Int)), sv]))]) ⟨rfl, trivial⟩
  rw [hJ]; clear hJ
  have hn64 := hg.hn; have hm := hg.hm
  repeat (first|refine nt ?_|refine nq ?_|refine wq U ?_)
  refine wg U ?_
  refine wl_op U rfl rfl (op_box U rfl rfl ?_)
  refine wr U ((ra U).to (v' := (.slice none 0 0)) rfl) rfl rfl ?_
  refine wz U ?_
  repeat (first|refine nt ?_|refine nq ?_|refine wq U ?_)
  refine wg U ?_
  refine wr U ((rfa U fb_24_0 rfl).to (v' := (.pointer (some ⟨N, 0, none⟩))) rfl) rfl rfl ?_
  refine wr U (rl1 U el_3 rfl (v := (.int .i64 ((n : Nat) : Int))) (by rw [rhq U (by omega)]; rfl)) rfl rfl ?_
  refine wl_op U rfl rfl (op_makeSlice U (m := n) (v := .map none) sl_134 rfl rfl rfl (by omega) (by omega) ?_)
  refine wr U ((ra U).to (v' := (.slice (some ⟨(N + 1), 0, none⟩) n n)) rfl) rfl rfl ?_
  refine wz U ?_
  refine wc_gen U (fun H2 => H2 N = some (.row 24 0 [(.int .i64 ((n : Nat) : Int)), sv] 2) ∧ H2 (N + 1) = some (.row 64 0 (List.replicate n (.map none)) n) ∧ Sub H H2) ⟨(hsn (by omega)).trans hsy, hsy, ((Sub.refl H).hset (fresh hlt (by omega))).hset (fresh hlt (by omega))⟩ ?_
  rintro H2 ⟨hN2, hb2, hs2⟩ hBN2 hlt2
  repeat (first|refine nt ?_|refine nq ?_|refine wq U ?_)
  refine wg U ?_
  refine wr U (rd_load2 U el_24 rfl (v0 := (.int .i64 ((n : Nat) : Int))) (v1 := sv)  (by rw [rrw U (by omega) hN2]; rfl) (by rw [rrw U (by omega) hN2]; rfl)) rfl rfl ?_
  refine wl_op U rfl rfl (op_call U Tryz.f61 rfl rfl pf_61 (by kernel_rfl) (by kernel_rfl) ((s61f U n E sv hg H2 _ (hv.sub U hs2)).mono U ?_))
  rintro av H3 N3 ⟨hA0, hs3, hN3⟩
  refine wl_own U fun hBN3 hlt3 => ?_
  obtain ⟨R, hR⟩ : ∃ R, hdel H3 (N + 1) = R := ⟨_, rfl⟩
  have hfR : Sub (from_ (N + 2) H3) R := by intro c o hc; rw [← hR]; unfold from_ at hc; split at hc; rw [hdel_ne (by omega)]; exact hc; cases hc
  have hHR : Sub H R := by intro c o hc; have := hlt c o hc; rw [← hR, hdel_ne (by omega)]; exact hs3 _ _ (hs2 _ _ hc)
  have hRR : Sub R H3 := by intro c o hc; rw [← hR] at hc; unfold hdel at hc; split at hc; cases hc; exact hc
  have hltR : ∀ c o, R c = some o → U.B ≤ c ∧ c < N3 ∧ c ≠ N + 1 := by intro c o hc; have h1 := hlt3 c o (hRR c o hc); refine ⟨h1.1, h1.2, ?_⟩; rintro rfl; rw [← hR] at hc; simp [hdel] at hc
  have hA := hA0.sub U hfR
  obtain ⟨vsA, hAr, hAl, hAe⟩ := hA
  obtain ⟨pA, capA, rfl, hcA, hpA⟩ := hAr.cells1 U
  have hAn : vsA.length = n := by rw [hAl]; exact nearL_length n E
  refine wr U ((rd_len' U sl_25 rfl).to (v' := (.int .i64 ((vsA.length : Nat) : Int))) rfl) rfl rfl ?_
  refine wr U ((rm U).to (v' := (.int .i64 0)) rfl) rfl rfl ?_
  refine wz U ?_
  have hF0 : Fldo R H3 (N + 1) N3 n N3 (List.replicate n (.map none)) (mapF (nearL n E) n 0) := ⟨by have := Fld.fresh H3 N3 N3 n; simpa [mapF] using this, hs3 _ _ hb2, by simp, hRR, by omega, Nat.le_refl _⟩
  repeat (first|refine nt ?_|refine nq ?_|refine wq U ?_)
  refine wc_block U ?_
  refine wc_loop U (fun m T H' N' => ∃ (k : Nat) (vs : List Value), k ≤ n ∧ m = n - k ∧ Has T [(3, (.slice (some ⟨(N + 1), 0, none⟩) n n)), (12, (.slice pA vsA.length capA)), (13, (.int .i64 ((vsA.length : Nat) : Int))), (14, (.int .i64 ((k : Nat) : Int)))] ∧ Fldo R H' (N + 1) N3 n N' vs (mapF (nearL n E) n k)) n ⟨0, _, Nat.zero_le _, rfl, ⟨rfl, rfl, rfl, rfl, trivial⟩, hF0⟩ ?_
  rintro m T H4 N4 ⟨k, vs, hk, rfl, hT, hF⟩
  obtain ⟨J, rfl⟩ := hT.ex
  have hFl := hF.lt
  repeat (first|refine nt ?_|refine nq ?_|refine wq U ?_)
  refine wg U ?_
  refine wr U (rd_lss U rfl rfl) rfl rfl ?_
  refine wz U ?_
  repeat (first|refine nt ?_|refine nq ?_|refine wq U ?_)
  refine wcd U (t := (decide (((k : Nat) : Int) < ((vsA.length : Nat) : Int)))) rfl (fun hck => ?_) fun hck => ?_
  · replace hck := of_decide_eq_true hck
    refine wsk U ?_
    repeat (first|refine nt ?_|refine nq ?_)
    have hk1 : k < n := by omega
    obtain ⟨u, hu⟩ := get_ex (l := vsA) (i := k) (by omega)
    have hkX : k < (nearL n E).length := by rw [nearL_length]; exact hk1
    have hur := hAe _ _ _ hu (List.getElem?_eq_getElem hkX)
    obtain ⟨xs, hxs⟩ : ∃ xs, (nearL n E)[k] = xs := ⟨_, rfl⟩
    rw [hxs] at hur
    obtain ⟨pu, capu, rfl, hcu, hpu⟩ := hur.nums U
    have hnd : xs.Nodup := near_nodup hg _ (hxs ▸ List.getElem_mem hkX)
    have hxl : xs.length ≤ n := nodup_len n xs hnd (fun x hx => nearL_lt hg (v := k) (by rw [List.getD_eq_getElem?_getD, List.getElem?_eq_getElem hkX, hxs]; exact hx))
    obtain ⟨bA, offA, rfl⟩ := hpA (by omega)
    repeat (first|refine nt ?_|refine nq ?_|refine wq U ?_)
    refine wc_block U ?_
    repeat (first|refine nt ?_|refine nq ?_|refine wq U ?_)
    refine wg U ?_
    refine wr U ((rm U).to (v' := (.int .i64 ((k : Nat) : Int))) rfl) rfl rfl ?_
    refine wr U (rd_idx1 U (j := k) sl_25 rfl rfl (by omega)) rfl rfl ?_
    refine wr U (rl1 U el_26 rfl (v := (.slice pu xs.length capu)) ((hAr.sub U hF.sub).get U hu)) rfl rfl ?_
    refine wr U ((ra U).to (v' := (.int .i64 ((k : Nat) : Int))) rfl) rfl rfl ?_
    refine wr U ((ra U).to (v' := (.slice pu xs.length capu)) rfl) rfl rfl ?_
    refine wz U ?_
    repeat (first|refine nt ?_|refine nq ?_|refine wq U ?_)
    refine wg U ?_
    refine wr U ((rm U).to (v' := (.slice (some ⟨(N + 1), 0, none⟩) n n)) rfl) rfl rfl ?_
    refine wr U ((rm U).to (v' := (.int .i64 ((k : Nat) : Int))) rfl) rfl rfl ?_
    refine wl_op U rfl rfl (op_makeMap U ?_)
    refine wr U (rd_idx1 U (j := k) sl_134 rfl rfl hk1) rfl rfl ?_
    refine wl_op0 U rfl (op_store1 U el_64 rfl rfl rfl rfl ((hsn (by omega)).trans hF.row) (by omega) (by rw [hF.len]; omega) ?_)
    refine wz U ?_
    refine wc_gen U (fun Hs => ∃ vs2, Fldo R Hs (N + 1) N3 n (N4 + 1) vs2 ((mapF (nearL n E) n k).set k (some (xs.take 0)))) ⟨vs.set k (.map (some N4)), ?_⟩ ?_
    · have := hF.put U hltR hk1 (v := .map (some N4)) (o := some (xs.take 0)) (N2 := N4 + 1) (H2 := hset H4 N4 (.map [])) (by omega) (fun c hc => hsn (by omega)) (.inr ⟨N4, _, rfl, rfl, Nat.le_refl _, by omega, hsy⟩)
      rw [show 0 + k - 0 = k by omega]; exact this
    rintro H5 ⟨vs2, hF5⟩ hBN5 hlt5
    repeat (first|refine nt ?_|refine nq ?_|refine wq U ?_)
    refine wg U ?_
    refine wr U ((rm U).to (v' := (.slice pu xs.length capu)) rfl) rfl rfl ?_
    refine wr U ((rd_len' U sl_26 rfl).to (v' := (.int .i64 ((xs.length : Nat) : Int))) rfl) rfl rfl ?_
    refine wr U ((rm U).to (v' := (.int .i64 0)) rfl) rfl rfl ?_
    refine wz U ?_
    repeat (first|refine nt ?_|refine nq ?_|refine wq U ?_)
    refine wc_block U ?_
    refine wc_loop U (fun m' T H' N' => ∃ (j : Nat) (vs : List Value), j ≤ xs.length ∧ m' = xs.length - j ∧ Has T [(3, (.slice (some ⟨(N + 1), 0, none⟩) n n)), (4, (.int .i64 ((k : Nat) : Int))), (12, (.slice (some ⟨bA, offA, none⟩) vsA.length capA)), (13, (.int .i64 ((vsA.length : Nat) : Int))), (14, (.int .i64 ((k : Nat) : Int))), (23, (.slice pu xs.length capu)), (24, (.int .i64 ((xs.length : Nat) : Int))), (25, (.int .i64 ((j : Nat) : Int)))] ∧ Fldo R H' (N + 1) N3 n N' vs ((mapF (nearL n E) n k).set k (some (xs.take j)))) xs.length ⟨0, _, Nat.zero_le _, rfl, ⟨rfl, rfl, rfl, rfl, rfl, rfl, rfl, rfl, trivial⟩, hF5⟩ ?_
    rintro m' T H6 N6 ⟨j, vs6, hj, rfl, hT, hF6⟩
    obtain ⟨J, rfl⟩ := hT.ex
    have hFl6 := hF6.lt
    repeat (first|refine nt ?_|refine nq ?_|refine wq U ?_)
    refine wg U ?_
    refine wr U (rd_lss U rfl rfl) rfl rfl ?_
    refine wz U ?_
    repeat (first|refine nt ?_|refine nq ?_|refine wq U ?_)
    refine wcd U (t := (decide (((j : Nat) : Int) < ((xs.length : Nat) : Int)))) rfl (fun hcj => ?_) fun hcj => ?_
    · replace hcj := of_decide_eq_true hcj
      refine wsk U ?_
      repeat (first|refine nt ?_|refine nq ?_)
      have hj1 : j < xs.length := by omega
      obtain ⟨bu, offu, rfl⟩ := hpu (by omega)
      obtain ⟨cm, hcv, hcL, hcN, hcm⟩ := hF6.at (i := k) (ks := xs.take j) (by rw [List.getElem?_set, if_pos rfl, if_pos (by rw [mapF_length (nearL_length n E) (by omega)]; exact hk1)])
      repeat (first|refine nt ?_|refine nq ?_|refine wq U ?_)
      refine wc_block U ?_
      repeat (first|refine nt ?_|refine nq ?_|refine wq U ?_)
      refine wg U ?_
      refine wr U (rd_idx1 U (j := j) sl_26 rfl rfl (by omega)) rfl rfl ?_
      refine wr U (rl1 U el_3 rfl (v := (.int .i64 ((xs[j] : Nat) : Int))) ((hur.sub U hF6.sub).n0 U hj1)) rfl rfl ?_
      refine wr U ((ra U).to (v' := (.int .i64 ((xs[j] : Nat) : Int))) rfl) rfl rfl ?_
      refine wz U ?_
      repeat (first|refine nt ?_|refine nq ?_|refine wq U ?_)
      refine wg U ?_
      refine wr U ((rm U).to (v' := (.slice (some ⟨(N + 1), 0, none⟩) n n)) rfl) rfl rfl ?_
      refine wr U ((rm U).to (v' := (.int .i64 ((k : Nat) : Int))) rfl) rfl rfl ?_
      refine wr U (rd_idx1 U (j := k) sl_134 rfl rfl hk1) rfl rfl ?_
      refine wr U (rl1 U el_64 rfl (v := (.map (some cm))) (rd_at U (by omega) hF6.row hcv)) rfl rfl ?_
      refine wr U ((rm U).to (v' := (.int .i64 ((xs[j] : Nat) : Int))) rfl) rfl rfl ?_
      refine wl_op0 U rfl (op_mapUpdate U (v := .bool true) (k := ((xs[j] : Nat) : Int)) (m := km (xs.take j)) um_64 key_int rfl rfl rfl hcm ?_)
      refine wz U ?_
      repeat (first|refine nt ?_|refine nq ?_)
      repeat (first|refine nt ?_|refine nq ?_|refine wq U ?_)
      refine wg U ?_
      refine wr U (rd_add U rfl rfl (by omega) (by omega)) rfl rfl ?_
      refine wr U ((rm U).to (v' := (.int .i64 (((j : Nat) : Int) + 1))) rfl) rfl rfl ?_
      refine wz U ?_
      repeat (first|refine nt ?_|refine nq ?_)
      refine ⟨xs.length - (j + 1), by omega, j + 1, vs6, by omega, rfl, ⟨rfl, rfl, rfl, rfl, rfl, rfl, rfl, rfl, trivial⟩, ?_⟩
      have := hF6.turn U hltR hcv hcL (xs.take (j + 1)) hk1
      rw [set_set] at this
      rw [show encM encI (put (km (xs.take j)) ((xs[j] : Nat) : Int) (.bool true)) = kmE (xs.take (j + 1)) by rw [put_km, addK_take hnd hj1]; rfl]
      exact this
    · replace hcj := of_decide_eq_false hcj
      refine wc_exit U ?_
      repeat (first|refine xt ?_|refine xps (by decide) ?_)
      refine xbl ?_
      repeat (first|refine nt ?_|refine nq ?_)
      have hje : j = xs.length := by omega
      rw [hje, List.take_length, ← hxs, mapF_succ (nearL_length n E) hk1] at hF6
      repeat (first|refine nt ?_|refine nq ?_|refine wq U ?_)
      refine wg U ?_
      refine wr U (rd_add U rfl rfl (by omega) (by omega)) rfl rfl ?_
      refine wr U ((rm U).to (v' := (.int .i64 (((k : Nat) : Int) + 1))) rfl) rfl rfl ?_
      refine wz U ?_
      repeat (first|refine nt ?_|refine nq ?_)
      exact ⟨n - (k + 1), by omega, k + 1, vs6, by omega, rfl, ⟨rfl, rfl, rfl, rfl, trivial⟩, hF6⟩
  · replace hck := of_decide_eq_false hck
    refine wc_exit U ?_
    repeat (first|refine xt ?_|refine xps (by decide) ?_)
    refine xbl ?_
    repeat (first|refine nt ?_|refine nq ?_)
    have hkn : k = n := by omega
    rw [hkn, mapF_all (nearL_length n E)] at hF
    repeat (first|refine nt ?_|refine nq ?_|refine wq U ?_)
    refine wg U ?_
    refine wr U ((rm U).to (v' := (.slice (some ⟨(N + 1), 0, none⟩) n n)) rfl) rfl rfl ?_
    refine wr U ((ra U).to (v' := (.slice (some ⟨(N + 1), 0, none⟩) n n)) rfl) rfl rfl ?_
    refine wz U ?_
    refine wc_ret U ?_
    repeat (first|refine ret1 ?_|refine ret2 ?_)
    exact end1 U (.inl rfl) rfl (v := (.slice (some ⟨(N + 1), 0, none⟩) n n)) rfl ⟨N + 1, N3, vs, rfl, by omega, hF.base hHR, by omega⟩
end Go.Proofs.YtdmodppoellbkaaGreat
namespace Go.Proofs.YtdmodppoellbkaaGreat
open Go Go.RowKit
variable (U : Cx)
/-- What 'fewest' tells. -/
def Few (n : Nat) (F : List (Option (List Nat))) (k : Nat) (r : Int) : Prop := (r = -1 ∧ ∀ (i : Nat) (ks : List Nat), i < k → F[i]? ≠ some (some ks)) ∨ ∃ (v : Nat) (ks : List Nat), r = ((v : Nat) : Int) ∧ v < n ∧ F[v]? = some (some ks)
theorem Few.lo {n k : Nat} {F : List (Option (List Nat))} {r : Int} (h : Few n F k r) : -1 ≤ r ∧ r < n := by
  rcases h with ⟨h, _⟩ | ⟨v, ks, h, h2, _⟩ <;> omega
theorem s90 (R : Hp) (b L n : Nat) (vs : List Value) (F : List (Option (List Nat))) (hn : n ≤ 64) (H : Hp) (N : Nat) (hF : Fldo R H b L n N vs F) : Spec U 90 #[(.slice (some ⟨b, 0, none⟩) n n)] H N (fun v H' N' => (∃ r, v = .int .i64 r ∧ Few n F n r) ∧ H = H' ∧ N = N') := by
  refine spa U pf_90 (m := 32) rfl rfl (by simp) fun hBN hlt => ?_
  obtain ⟨J, hJ⟩ := Has.ex (T := argsT #[(.slice (some ⟨b, 0, none⟩) n n)]) (l := [(0, (.slice (some ⟨b, 0, none⟩) n n))]) ⟨rfl, trivial⟩
  rw [hJ]; clear hJ
  have hbB := (hlt _ _ hF.row).1
  repeat (first|refine nt ?_|refine nq ?_|refine wq U ?_)
  refine wg U ?_
  refine wr U ((ra U).to (v' := (.int .i64 0)) rfl) rfl rfl ?_
  refine wz U ?_
  repeat (first|refine nt ?_|refine nq ?_|refine wq U ?_)
  refine wg U ?_
  refine wr U ((ra U).to (v' := (.int .i64 (-1))) rfl) rfl rfl ?_
  refine wz U ?_
  repeat (first|refine nt ?_|refine nq ?_|refine wq U ?_)
  refine wg U ?_
  refine wr U ((rm U).to (v' := (.slice (some ⟨b, 0, none⟩) n n)) rfl) rfl rfl ?_
  refine wr U ((rd_len' U sl_134 rfl).to (v' := (.int .i64 ((n : Nat) : Int))) rfl) rfl rfl ?_
  refine wr U ((rm U).to (v' := (.int .i64 0)) rfl) rfl rfl ?_
  refine wz U ?_
  repeat (first|refine nt ?_|refine nq ?_|refine wq U ?_)
  refine wc_block U ?_
  refine wc_loop U (fun m T H' N' => ∃ (k : Nat) (r : Int), k ≤ n ∧ m = n - k ∧ Has T [(0, (.slice (some ⟨b, 0, none⟩) n n)), (3, (.int .i64 r)), (6, (.slice (some ⟨b, 0, none⟩) n n)), (7, (.int .i64 ((n : Nat) : Int))), (8, (.int .i64 ((k : Nat) : Int)))] ∧ H = H' ∧ N = N' ∧ Few n F k r) n ⟨0, -1, Nat.zero_le _, rfl, ⟨rfl, rfl, rfl, rfl, rfl, trivial⟩, rfl, rfl, .inl ⟨rfl, fun i ks h => by omega⟩⟩ ?_
  rintro m T _ _ ⟨k, r, hk, rfl, hT, rfl, rfl, hr⟩
  obtain ⟨J, rfl⟩ := hT.ex
  have hrl := hr.lo
  repeat (first|refine nt ?_|refine nq ?_|refine wq U ?_)
  refine wg U ?_
  refine wr U (rd_lss U rfl rfl) rfl rfl ?_
  refine wz U ?_
  repeat (first|refine nt ?_|refine nq ?_|refine wq U ?_)
  refine wcd U (t := (decide (((k : Nat) : Int) < ((n : Nat) : Int)))) rfl (fun hck => ?_) fun hck => ?_
  · replace hck := of_decide_eq_true hck
    refine wsk U ?_
    repeat (first|refine nt ?_|refine nq ?_)
    have hk1 : k < n := by omega
    obtain ⟨o, ho⟩ := get_ex (l := F) (i := k) (by rw [hF.flen]; exact hk1)
    obtain ⟨v, hv⟩ := get_ex (l := vs) (i := k) (by rw [hF.len]; exact hk1)
    repeat (first|refine nt ?_|refine nq ?_|refine wq U ?_)
    refine wc_block U ?_
    cases o with
    | none =>
      have hv0 := hF.f.nil k v hv ho
      subst hv0
      repeat (first|refine nt ?_|refine nq ?_|refine wq U ?_)
      refine wg U ?_
      refine wr U ((rm U).to (v' := (.int .i64 ((k : Nat) : Int))) rfl) rfl rfl ?_
      refine wr U (rd_idx1 U (j := k) sl_134 rfl rfl hk1) rfl rfl ?_
      refine wr U (rl1 U el_64 rfl (v := (.map none)) (rd_at U (by omega) hF.row hv)) rfl rfl ?_
      refine wr U ((ra U).to (v' := (.int .i64 ((k : Nat) : Int))) rfl) rfl rfl ?_
      refine wr U ((ra U).to (v' := (.map none)) rfl) rfl rfl ?_
      refine wz U ?_
      repeat (first|refine nt ?_|refine nq ?_|refine wq U ?_)
      refine wc_draw U H mixed ?_
      refine wh_rd U 0 rfl ((rm U).to (v' := (.map none)) rfl) (by kernel_rfl) (by kernel_rfl) (by kernel_rfl) rfl rfl (Sub.refl _) ?_
      refine wh_rd U 1 rfl ((rd_neqNilMap U um_64 rfl rfl).to (v' := (.bool false)) rfl) (by kernel_rfl) (by kernel_rfl) (by kernel_rfl) rfl rfl (Sub.refl _) ?_
      refine wh_rd U 2 rfl ((rm U).to (v' := (.bool false)) rfl) (by kernel_rfl) (by kernel_rfl) (by kernel_rfl) rfl rfl (Sub.refl _) ?_
      refine wh_skip U 3 rfl (by kernel_rfl) (by kernel_rfl) (by kernel_rfl) rfl rfl (Sub.refl _) ?_
      refine wh_skip U 4 rfl (by kernel_rfl) (by kernel_rfl) (by kernel_rfl) rfl rfl (Sub.refl _) ?_
      refine wh_skip U 5 rfl (by kernel_rfl) (by kernel_rfl) (by kernel_rfl) rfl rfl (Sub.refl _) ?_
      refine wh_skip U 6 rfl (by kernel_rfl) (by kernel_rfl) (by kernel_rfl) rfl rfl (Sub.refl _) ?_
      refine wh_skip U 7 rfl (by kernel_rfl) (by kernel_rfl) (by kernel_rfl) rfl rfl (Sub.refl _) ?_
      refine wh_skip U 8 rfl (by kernel_rfl) (by kernel_rfl) (by kernel_rfl) rfl rfl (Sub.refl _) ?_
      refine wh_skip U 9 rfl (by kernel_rfl) (by kernel_rfl) (by kernel_rfl) rfl rfl (Sub.refl _) ?_
      refine wh_skip U 10 rfl (by kernel_rfl) (by kernel_rfl) (by kernel_rfl) rfl rfl (Sub.refl _) ?_
      refine wh_skip U 11 rfl (by kernel_rfl) (by kernel_rfl) (by kernel_rfl) rfl rfl (Sub.refl _) ?_
      refine wh_skip U 12 rfl (by kernel_rfl) (by kernel_rfl) (by kernel_rfl) rfl rfl (Sub.refl _) ?_
      refine wh_skip U 13 rfl (by kernel_rfl) (by kernel_rfl) (by kernel_rfl) rfl rfl (Sub.refl _) ?_
      refine wh_skip U 14 rfl (by kernel_rfl) (by kernel_rfl) (by kernel_rfl) rfl rfl (Sub.refl _) ?_
      refine wh_rd U 15 rfl ((rd_pick U rfl).to (v' := (.bool false)) rfl) (by kernel_rfl) (by kernel_rfl) (by kernel_rfl) rfl rfl (Sub.refl _) ?_
      refine wh_done U (by kernel_rfl) ?_
      repeat (first|refine nt ?_|refine nq ?_|refine wq U ?_)
      refine wcd U (t := false) rfl (fun h => nomatch h) fun _ => ?_
      refine wsk U ?_
      repeat (first|refine nt ?_|refine nq ?_)
      repeat (first|refine nt ?_|refine nq ?_|refine wq U ?_)
      refine wg U ?_
      refine wr U (rd_add U rfl rfl (by omega) (by omega)) rfl rfl ?_
      refine wr U ((rm U).to (v' := (.int .i64 (((k : Nat) : Int) + 1))) rfl) rfl rfl ?_
      refine wz U ?_
      repeat (first|refine nt ?_|refine nq ?_)
      refine ⟨n - (k + 1), by omega, k + 1, r, by omega, rfl, ⟨rfl, rfl, rfl, rfl, rfl, trivial⟩, rfl, rfl, ?_⟩
      rcases hr with ⟨h, h2⟩ | h
      · refine .inl ⟨h, fun i ks hi => ?_⟩
        rcases Nat.lt_or_ge i k with h3 | h3
        · exact h2 i ks h3
        · obtain rfl : i = k := by omega
          rw [ho]; simp
      · exact .inr h
    | some ks =>
      obtain ⟨c, rfl, hcL, hcN, hcm⟩ := hF.f.map k v ks hv ho
      repeat (first|refine nt ?_|refine nq ?_|refine wq U ?_)
      refine wg U ?_
      refine wr U ((rm U).to (v' := (.int .i64 ((k : Nat) : Int))) rfl) rfl rfl ?_
      refine wr U (rd_idx1 U (j := k) sl_134 rfl rfl hk1) rfl rfl ?_
      refine wr U (rl1 U el_64 rfl (v := (.map (some c))) (rd_at U (by omega) hF.row hv)) rfl rfl ?_
      refine wr U ((ra U).to (v' := (.int .i64 ((k : Nat) : Int))) rfl) rfl rfl ?_
      refine wr U ((ra U).to (v' := (.map (some c))) rfl) rfl rfl ?_
      refine wz U ?_
      rcases hr with ⟨hrm, hr2⟩ | ⟨bv, bks, hrb, hbn, hbF⟩
      · subst hrm
        repeat (first|refine nt ?_|refine nq ?_|refine wq U ?_)
        refine wc_draw U H mixed ?_
        refine wh_rd U 0 rfl ((rm U).to (v' := (.map (some c))) rfl) (by kernel_rfl) (by kernel_rfl) (by kernel_rfl) rfl rfl (Sub.refl _) ?_
        refine wh_rd U 1 rfl ((rd_neqNilMap U um_64 rfl rfl).to (v' := (.bool true)) rfl) (by kernel_rfl) (by kernel_rfl) (by kernel_rfl) rfl rfl (Sub.refl _) ?_
        refine wh_rd U 2 rfl ((rm U).to (v' := (.bool true)) rfl) (by kernel_rfl) (by kernel_rfl) (by kernel_rfl) rfl rfl (Sub.refl _) ?_
        refine wh_rd U 3 rfl ((rm U).to (v' := (.int .i64 (-1))) rfl) (by kernel_rfl) (by kernel_rfl) (by kernel_rfl) rfl rfl (Sub.refl _) ?_
        refine wh_rd U 4 rfl ((rd_lss U rfl rfl).to (v' := (.bool true)) rfl) (by kernel_rfl) (by kernel_rfl) (by kernel_rfl) rfl rfl (Sub.refl _) ?_
        refine wh_rd U 5 rfl ((rm U).to (v' := (.bool true)) rfl) (by kernel_rfl) (by kernel_rfl) (by kernel_rfl) rfl rfl (Sub.refl _) ?_
        refine wh_skip U 6 rfl (by kernel_rfl) (by kernel_rfl) (by kernel_rfl) rfl rfl (Sub.refl _) ?_
        refine wh_skip U 7 rfl (by kernel_rfl) (by kernel_rfl) (by kernel_rfl) rfl rfl (Sub.refl _) ?_
        refine wh_skip U 8 rfl (by kernel_rfl) (by kernel_rfl) (by kernel_rfl) rfl rfl (Sub.refl _) ?_
        refine wh_skip U 9 rfl (by kernel_rfl) (by kernel_rfl) (by kernel_rfl) rfl rfl (Sub.refl _) ?_
        refine wh_skip U 10 rfl (by kernel_rfl) (by kernel_rfl) (by kernel_rfl) rfl rfl (Sub.refl _) ?_
        refine wh_skip U 11 rfl (by kernel_rfl) (by kernel_rfl) (by kernel_rfl) rfl rfl (Sub.refl _) ?_
        refine wh_skip U 12 rfl (by kernel_rfl) (by kernel_rfl) (by kernel_rfl) rfl rfl (Sub.refl _) ?_
        refine wh_skip U 13 rfl (by kernel_rfl) (by kernel_rfl) (by kernel_rfl) rfl rfl (Sub.refl _) ?_
        refine wh_rd U 14 rfl ((rd_pick U rfl).to (v' := (.bool true)) rfl) (by kernel_rfl) (by kernel_rfl) (by kernel_rfl) rfl rfl (Sub.refl _) ?_
        refine wh_rd U 15 rfl ((rd_pick U rfl).to (v' := (.bool true)) rfl) (by kernel_rfl) (by kernel_rfl) (by kernel_rfl) rfl rfl (Sub.refl _) ?_
        refine wh_done U (by kernel_rfl) ?_
        repeat (first|refine nt ?_|refine nq ?_|refine wq U ?_)
        refine wcd U (t := true) rfl (fun _ => ?_) (fun h => nomatch h)
        repeat (first|refine nt ?_|refine nq ?_|refine wq U ?_)
        refine wg U ?_
        refine wr U ((rm U).to (v' := (.int .i64 ((k : Nat) : Int))) rfl) rfl rfl ?_
        refine wr U ((ra U).to (v' := (.int .i64 ((k : Nat) : Int))) rfl) rfl rfl ?_
        refine wz U ?_
        repeat (first|refine nt ?_|refine nq ?_)
        repeat (first|refine nt ?_|refine nq ?_|refine wq U ?_)
        refine wg U ?_
        refine wr U (rd_add U rfl rfl (by omega) (by omega)) rfl rfl ?_
        refine wr U ((rm U).to (v' := (.int .i64 (((k : Nat) : Int) + 1))) rfl) rfl rfl ?_
        refine wz U ?_
        repeat (first|refine nt ?_|refine nq ?_)
        exact ⟨n - (k + 1), by omega, k + 1, ((k : Nat) : Int), by omega, rfl, ⟨rfl, rfl, rfl, rfl, rfl, trivial⟩, rfl, rfl, .inr ⟨k, ks, rfl, hk1, ho⟩⟩
      · subst hrb
        obtain ⟨c2, hv2, hc2L, hc2N, hc2m⟩ := hF.at hbF
        repeat (first|refine nt ?_|refine nq ?_|refine wq U ?_)
        refine wc_draw U H mixed ?_
        refine wh_rd U 0 rfl ((rm U).to (v' := (.map (some c))) rfl) (by kernel_rfl) (by kernel_rfl) (by kernel_rfl) rfl rfl (Sub.refl _) ?_
        refine wh_rd U 1 rfl ((rd_neqNilMap U um_64 rfl rfl).to (v' := (.bool true)) rfl) (by kernel_rfl) (by kernel_rfl) (by kernel_rfl) rfl rfl (Sub.refl _) ?_
        refine wh_rd U 2 rfl ((rm U).to (v' := (.bool true)) rfl) (by kernel_rfl) (by kernel_rfl) (by kernel_rfl) rfl rfl (Sub.refl _) ?_
        refine wh_rd U 3 rfl ((rm U).to (v' := (.int .i64 ((bv : Nat) : Int))) rfl) (by kernel_rfl) (by kernel_rfl) (by kernel_rfl) rfl rfl (Sub.refl _) ?_
        refine wh_rd U 4 rfl ((rd_lss U rfl rfl).to (v' := (.bool false)) (congrArg Value.bool (decide_eq_false (by omega)))) (by kernel_rfl) (by kernel_rfl) (by kernel_rfl) rfl rfl (Sub.refl _) ?_
        refine wh_rd U 5 rfl ((rm U).to (v' := (.bool false)) rfl) (by kernel_rfl) (by kernel_rfl) (by kernel_rfl) rfl rfl (Sub.refl _) ?_
        refine wh_rd U 6 rfl ((rm U).to (v' := (.map (some c))) rfl) (by kernel_rfl) (by kernel_rfl) (by kernel_rfl) rfl rfl (Sub.refl _) ?_
        refine wh_rd U 7 rfl ((rd_lenMap U rfl um_64 rfl (.inl hcm)).to (v' := (.int .i64 (((kmE ks).length : Nat) : Int))) rfl) (by kernel_rfl) (by kernel_rfl) (by kernel_rfl) rfl rfl (Sub.refl _) ?_
        refine wh_rd U 8 rfl ((rm U).to (v' := (.slice (some ⟨b, 0, none⟩) n n)) rfl) (by kernel_rfl) (by kernel_rfl) (by kernel_rfl) rfl rfl (Sub.refl _) ?_
        refine wh_rd U 9 rfl ((rm U).to (v' := (.int .i64 ((bv : Nat) : Int))) rfl) (by kernel_rfl) (by kernel_rfl) (by kernel_rfl) rfl rfl (Sub.refl _) ?_
        refine wh_rd U 10 rfl (rd_idx1 U (j := bv) sl_134 rfl rfl hbn) (by kernel_rfl) (by kernel_rfl) (by kernel_rfl) rfl rfl (Sub.refl _) ?_
        refine wh_rd U 11 rfl (rl1 U el_64 rfl (v := (.map (some c2))) (rd_at U (by omega) hF.row hv2)) (by kernel_rfl) (by kernel_rfl) (by kernel_rfl) rfl rfl (Sub.refl _) ?_
        refine wh_rd U 12 rfl ((rd_lenMap U rfl um_64 rfl (.inl hc2m)).to (v' := (.int .i64 (((kmE bks).length : Nat) : Int))) rfl) (by kernel_rfl) (by kernel_rfl) (by kernel_rfl) rfl rfl (Sub.refl _) ?_
        refine wh_rd U 13 rfl (rd_lss U rfl rfl) (by kernel_rfl) (by kernel_rfl) (by kernel_rfl) rfl rfl (Sub.refl _) ?_
        obtain ⟨bb, hbb⟩ : ∃ bb, decide ((((kmE ks).length : Nat) : Int) < (((kmE bks).length : Nat) : Int)) = bb := ⟨_, rfl⟩
        rw [hbb]
        refine wh_rd U 14 rfl ((rd_pick U rfl).to (v' := (.bool bb)) rfl) (by kernel_rfl) (by kernel_rfl) (by kernel_rfl) rfl rfl (Sub.refl _) ?_
        refine wh_rd U 15 rfl ((rd_pick U rfl).to (v' := (.bool bb)) rfl) (by kernel_rfl) (by kernel_rfl) (by kernel_rfl) rfl rfl (Sub.refl _) ?_
        refine wh_done U (by kernel_rfl) ?_
        repeat (first|refine nt ?_|refine nq ?_|refine wq U ?_)
        refine wcd U (t := bb) rfl (fun hbt => ?_) fun hbt => ?_
        · skip
          repeat (first|refine nt ?_|refine nq ?_|refine wq U ?_)
          refine wg U ?_
          refine wr U ((rm U).to (v' := (.int .i64 ((k : Nat) : Int))) rfl) rfl rfl ?_
          refine wr U ((ra U).to (v' := (.int .i64 ((k : Nat) : Int))) rfl) rfl rfl ?_
          refine wz U ?_
          repeat (first|refine nt ?_|refine nq ?_)
          repeat (first|refine nt ?_|refine nq ?_|refine wq U ?_)
          refine wg U ?_
          refine wr U (rd_add U rfl rfl (by omega) (by omega)) rfl rfl ?_
          refine wr U ((rm U).to (v' := (.int .i64 (((k : Nat) : Int) + 1))) rfl) rfl rfl ?_
          refine wz U ?_
          repeat (first|refine nt ?_|refine nq ?_)
          exact ⟨n - (k + 1), by omega, k + 1, ((k : Nat) : Int), by omega, rfl, ⟨rfl, rfl, rfl, rfl, rfl, trivial⟩, rfl, rfl, .inr ⟨k, ks, rfl, hk1, ho⟩⟩
        · skip
          refine wsk U ?_
          repeat (first|refine nt ?_|refine nq ?_)
          repeat (first|refine nt ?_|refine nq ?_|refine wq U ?_)
          refine wg U ?_
          refine wr U (rd_add U rfl rfl (by omega) (by omega)) rfl rfl ?_
          refine wr U ((rm U).to (v' := (.int .i64 (((k : Nat) : Int) + 1))) rfl) rfl rfl ?_
          refine wz U ?_
          repeat (first|refine nt ?_|refine nq ?_)
          exact ⟨n - (k + 1), by omega, k + 1, ((bv : Nat) : Int), by omega, rfl, ⟨rfl, rfl, rfl, rfl, rfl, trivial⟩, rfl, rfl, .inr ⟨bv, bks, rfl, hbn, hbF⟩⟩
  · replace hck := of_decide_eq_false hck
    refine wc_exit U ?_
    repeat (first|refine xt ?_|refine xps (by decide) ?_)
    refine xbl ?_
    repeat (first|refine nt ?_|refine nq ?_)
    have hkn : k = n := by omega
    rw [hkn] at hr
    repeat (first|refine nt ?_|refine nq ?_|refine wq U ?_)
    refine wg U ?_
    refine wr U ((rm U).to (v' := (.int .i64 r)) rfl) rfl rfl ?_
    refine wr U ((ra U).to (v' := (.int .i64 r)) rfl) rfl rfl ?_
    refine wz U ?_
    refine wc_ret U ?_
    repeat (first|refine ret1 ?_|refine ret2 ?_)
    exact end1 U (.inl rfl) rfl (v := (.int .i64 r)) rfl ⟨⟨r, rfl, hr⟩, rfl, rfl⟩
end Go.Proofs.YtdmodppoellbkaaGreat
namespace Go.Proofs.YtdmodppoellbkaaGreat
open Go Go.RowKit
variable (U : Cx)
/-- What is left when 'v' is taken away: 'd' those of its neighbours who have heard of it. -/
structure Taken (n : Nat) (F F' : List (Option (List Nat))) (v : Nat) (d : List Nat) : Prop where
  len : F'.length = n
  yes : ∀ (u : Nat) (ks : List Nat), F[u]? = some (some ks) → F'[u]? = some (some (if u ∈ d then ks.erase v else ks))
  no : ∀ u : Nat, F[u]? = some none → F'[u]? = some none
theorem Taken.start {n : Nat} {F : List (Option (List Nat))} (h : F.length = n) (v : Nat) : Taken n F F v [] := ⟨h, fun u ks h => by simpa using h, fun u h => h⟩
theorem Taken.next {n : Nat} {F F' : List (Option (List Nat))} {v u : Nat} {d ks : List Nat} (h : Taken n F F' v d) (hu : F[u]? = some (some ks)) (hn : u ∉ d) (hl : u < n) : Taken n F (F'.set u (some (ks.erase v))) v (d ++ [u]) := by
  refine ⟨by simp [h.len], fun x kx hx => ?_, fun x hx => ?_⟩
  · rw [List.getElem?_set]
    by_cases hxu : u = x
    · subst hxu; rw [if_pos rfl, if_pos (by rw [h.len]; exact hl)]; rw [hu] at hx; cases hx; simp
    · rw [if_neg hxu, h.yes x kx hx]; simp [Ne.symm hxu]
  · rw [List.getElem?_set]
    by_cases hxu : u = x
    · subst hxu; rw [hu] at hx; cases hx
    · rw [if_neg hxu]; exact h.no x hx
theorem kmE_erase (ks : List Nat) (q : Nat) : (kmE ks).eraseIdx q = kmE (ks.eraseIdx q) := by
  simp only [kmE, encM, km]; rw [map_eraseIdx', map_eraseIdx']
theorem hset_comm {H : Hp} {a b : Nat} {x y : Blk} (h : a ≠ b) : hset (hset H a x) b y = hset (hset H b y) a x := by
  funext c; unfold hset; split <;> split <;> first|rfl | omega
theorem hset_hset {H : Hp} {a : Nat} {x y : Blk} : hset (hset H a x) a y = hset H a y := by
  funext c; unfold hset; split <;> rfl
theorem sort_perm {a b : List Nat} (h : a.Perm b) : sortN a = sortN b :=
  List.Perm.eq_of_pairwise (le := (· ≤ ·)) (fun a b _ _ h1 h2 => Nat.le_antisymm h1 h2) (sortN_sorted a) (sortN_sorted b) ((sortN_perm a).trans (h.trans (sortN_perm b).symm))
theorem Fldo.drop {R H H2 : Hp} {b L n N N2 i : Nat} {vs : List Value} {F : List (Option (List Nat))} (h : Fldo R H b L n N vs F) (hR : ∀ c o, R c = some o → U.B ≤ c ∧ c < L ∧ c ≠ b) (hi : i < n) (hN : N ≤ N2) (hk : ∀ c, c < N → vs[i]? ≠ some (.map (some c)) → H2 c = H c) :
    Fldo R (hset H2 b (.row 64 0 (vs.set i (.map none)) n)) b L n N2 (vs.set i (.map none)) (F.set i none) := by
  have hlt := h.lt
  have hFl := h.flen
  have hcase : ∀ (j : Nat) (u : Value), (vs.set i (.map none))[j]? = some u → (j = i ∧ u = .map none) ∨ (j ≠ i ∧ vs[j]? = some u) := by
    intro j u hu
    rw [List.getElem?_set] at hu
    split at hu
    · rename_i hij; subst hij
      split at hu
      · cases hu; exact .inl ⟨rfl, rfl⟩
      · cases hu
    · rename_i hij; exact .inr ⟨fun h => hij h.symm, hu⟩
  have hF : ∀ (j : Nat) (p : Option (List Nat)), (F.set i none)[j]? = some p → (j = i ∧ p = none) ∨ (j ≠ i ∧ F[j]? = some p) := by
    intro j p hp
    rw [List.getElem?_set] at hp
    split at hp
    · rename_i hij; subst hij
      split at hp
      · cases hp; exact .inl ⟨rfl, rfl⟩
      · cases hp
    · rename_i hij; exact .inr ⟨fun h => hij h.symm, hp⟩
  have hlow : ∀ c, c < L → vs[i]? ≠ some (.map (some c)) := by
    intro c hc hv
    obtain ⟨o, ho⟩ := get_ex (l := F) (i := i) (by rw [hFl]; exact hi)
    cases o with
    | none => have := h.f.nil i _ hv ho; cases this
    | some ks => obtain ⟨c', h1, h2, _⟩ := h.f.map i _ ks hv ho; cases h1; omega
  refine ⟨⟨by simp [h.f.len], ?_, ?_, ?_⟩, hsy, by simp [h.len], fun c' o hc' => by have := hR c' o hc'; rw [hsn (by omega), hk c' (by omega) (hlow c' this.2.1)]; exact h.sub c' o hc', by omega⟩
  · intro j u hu hp
    rcases hcase j u hu with ⟨_, h1⟩ | ⟨hne, hu'⟩
    · exact h1
    · rcases hF j none hp with ⟨h1, _⟩ | ⟨_, h2⟩
      · exact absurd h1 hne
      · exact h.f.nil j u hu' h2
  · intro j u ks hu hp
    rcases hF j (some ks) hp with ⟨_, h2⟩ | ⟨h1, h2⟩
    · cases h2
    · rcases hcase j u hu with ⟨h3, _⟩ | ⟨_, hu'⟩
      · exact absurd h3 h1
      · obtain ⟨c, h3, h4, h5, h6⟩ := h.f.map j u ks hu' h2
        subst h3
        exact ⟨c, rfl, h4, by omega, by rw [hsn (by omega), hk c h5 (fun hv => h1 (h.f.ne j i c hu' hv))]; exact h6⟩
  · intro j l c hj hl
    rcases hcase j _ hj with ⟨_, h1⟩ | ⟨_, hj'⟩
    · cases h1
    · rcases hcase l _ hl with ⟨_, h2⟩ | ⟨_, hl'⟩
      · cases h2
      · exact h.f.ne j l c hj' hl'
theorem perm_eraseIdx {l : List Nat} {q k : Nat} (h : l[q]? = some k) : (k :: l.eraseIdx q).Perm l := by
  induction l generalizing q with
  | nil => simp at h
  | cons x l ih =>
    cases q with
    | zero => simp at h; subst h; simp
    | succ q => simp at h; simp only [List.eraseIdx_cons_succ]; exact (List.Perm.swap x k _).trans ((ih h).cons x)
theorem s91 (R : Hp) (b L n x : Nat) (vs : List Value) (F : List (Option (List Nat))) (ks : List Nat) (hn : n ≤ 64) (H : Hp) (N : Nat) (hF : Fldo R H b L n N vs F) (hR : ∀ c o, R c = some o → U.B ≤ c ∧ c < L ∧ c ≠ b) (hx : F[x]? = some (some ks)) (hxn : x < n) (hnd : ks.Nodup) (hsym : ∀ u ∈ ks, u ≠ x ∧ u < n ∧ ∃ ku, F[u]? = some (some ku)) : Spec U 91 #[(.slice (some ⟨b, 0, none⟩) n n), (.int .i64 ((x : Nat) : Int))] H N (fun v H' N' => ∃ F' d, d.Perm ks ∧ Taken n F F' x d ∧ IsSl H' v 3 1 (nats (sortN ks)) ∧ (∀ c, blkOf v = some c → N ≤ c) ∧ Fldo R H' b L n N' (vs.set x (.map none)) (F'.set x none) ∧ (∀ c, c < N → c ≠ b → (∀ i : Nat, vs[i]? ≠ some (.map (some c))) → H' c = H c) ∧ N ≤ N') := by
  refine spa U pf_91 (m := 30) rfl rfl (by simp) fun hBN hlt => ?_
  obtain ⟨J, hJ⟩ := Has.ex (T := argsT #[(.slice (some ⟨b, 0, none⟩) n n), (.int .i64 ((x : Nat) : Int))]) (l := [(0, (.slice (some ⟨b, 0, none⟩) n n)), (1, (.int .i64 ((x : Nat) : Int)))]) ⟨rfl, rfl, trivial⟩
  rw [hJ]; clear hJ
  have hbB := (hlt _ _ hF.row).1; have hFl := hF.lt; have hkl : ks.length ≤ n := nodup_len n ks hnd (fun u hu => (hsym u hu).2.1)
  obtain ⟨cm, hcv, hcL, hcN, hcm⟩ := hF.at hx
  repeat (first|refine nt ?_|refine nq ?_|refine wq U ?_)
  refine wg U ?_
  refine wr U ((ra U).to (v' := (.slice none 0 0)) rfl) rfl rfl ?_
  refine wz U ?_
  repeat (first|refine nt ?_|refine nq ?_|refine wq U ?_)
  refine wg U ?_
  refine wr U ((rm U).to (v' := (.slice (some ⟨b, 0, none⟩) n n)) rfl) rfl rfl ?_
  refine wr U ((rm U).to (v' := (.int .i64 ((x : Nat) : Int))) rfl) rfl rfl ?_
  refine wr U (rd_idx1 U (j := x) sl_134 rfl rfl hxn) rfl rfl ?_
  refine wr U (rl1 U el_64 rfl (v := (.map (some cm))) (rd_at U (by omega) hF.row hcv)) rfl rfl ?_
  refine wl_op U rfl rfl (op_range U um_64 rfl hcm ?_)
  refine wz U ?_
  repeat (first|refine nt ?_|refine nq ?_|refine wq U ?_)
  refine wc_block U ?_
  refine wc_loop U (fun m T H' N' => ∃ (d left : List Nat) (ov : Value) (Hb : Hp) (cur : Option (Value × Value)) (F' : List (Option (List Nat))), d.length + m = ks.length ∧ left.length = m ∧ (d ++ left).Perm ks ∧ Has T [(0, (.slice (some ⟨b, 0, none⟩) n n)), (1, (.int .i64 ((x : Nat) : Int))), (4, ov), (10, (.pointer (some ⟨N, 0, none⟩)))] ∧ H' = hset Hb cm (.mapr (kmE ks) N (kmE left) cur) ∧ Fldo R Hb b L n N vs F' ∧ Taken n F F' x d ∧ IsSl H' ov 3 1 (nats d) ∧ (∀ c, blkOf ov = some c → N + 1 ≤ c) ∧ (∀ c, c < N → c ≠ b → (∀ i : Nat, vs[i]? ≠ some (.map (some c))) → Hb c = H c) ∧ N + 1 ≤ N') ks.length ⟨[], ks, .slice none 0 0, H, none, F, by simp, rfl, by simp, ⟨rfl, rfl, rfl, rfl, trivial⟩, rfl, hF, Taken.start hF.flen x, .inl ⟨rfl, rfl⟩, (fun c hc => by cases hc), fun c _ _ _ => rfl, Nat.le_refl _⟩ ?_
  rintro m T _ N2 ⟨d, left, ov, Hb, cur, F', hdm, hlm, hpm, hT, rfl, hFb, hTk, hov, hob, hfr, hN2⟩
  obtain ⟨J, rfl⟩ := hT.ex
  refine wc_own U fun hBN2 hlt2 => ?_
  repeat (first|refine nt ?_|refine nq ?_|refine wq U ?_)
  refine wg U ?_
  refine wl_op U rfl rfl (op_next U hsy rfl (fun hleft => ?_) (fun q p hq => ?_))
  · skip
    refine wr U ((rd_extract U rfl rfl).to (v' := (.bool false)) rfl) rfl rfl ?_
    refine wz U ?_
    repeat (first|refine nt ?_|refine nq ?_|refine wq U ?_)
    refine wcd U (t := false) rfl (fun h => nomatch h) fun _ => ?_
    refine wc_exit U ?_
    repeat (first|refine xt ?_|refine xps (by decide) ?_)
    refine xbl ?_
    repeat (first|refine nt ?_|refine nq ?_)
    have hl0 : left = [] := by have := congrArg List.length hleft; rw [kmE_length] at this; exact List.eq_nil_of_length_eq_zero (by simpa using this)
    subst hl0
    rw [List.append_nil] at hpm
    repeat (first|refine nt ?_|refine nq ?_|refine wq U ?_)
    refine wg U ?_
    refine wr U ((rm U).to (v' := ov) rfl) rfl rfl ?_
    refine wl_op U rfl rfl (op_call U Tryz.f22 rfl rfl pf_22 (by kernel_rfl) (by kernel_rfl) ((s22 U _ d _ _ hov (by have := hpm.length_eq; omega)).mono U ?_))
    rintro _ H3 N3 ⟨rfl, hN3, hsl3, hfr3⟩
    refine wz U ?_
    have hrow3 : H3 b = some (.row 64 0 vs n) := (hfr3 b (fun h => by have := hob _ h; omega)).trans ((hsn (by omega)).trans hFb.row)
    have h3b : ∀ c, c < N → c ≠ cm → H3 c = Hb c := fun c hc hne => (hfr3 c (fun h => by have := hob _ h; omega)).trans (hsn hne)
    repeat (first|refine nt ?_|refine nq ?_|refine wq U ?_)
    refine wg U ?_
    refine wr U ((rm U).to (v' := (.slice (some ⟨b, 0, none⟩) n n)) rfl) rfl rfl ?_
    refine wr U ((rm U).to (v' := (.int .i64 ((x : Nat) : Int))) rfl) rfl rfl ?_
    refine wr U (rd_idx1 U (j := x) sl_134 rfl rfl hxn) rfl rfl ?_
    refine wl_op0 U rfl (op_store1 U el_64 rfl rfl rfl rfl hrow3 (by omega) (by rw [hF.len]; omega) ?_)
    refine wz U ?_
    repeat (first|refine nt ?_|refine nq ?_|refine wq U ?_)
    refine wg U ?_
    refine wr U ((rm U).to (v' := ov) rfl) rfl rfl ?_
    refine wr U ((ra U).to (v' := ov) rfl) rfl rfl ?_
    refine wz U ?_
    have hfin := hFb.drop U (H2 := H3) (N2 := N3) hR hxn (by omega) (fun c hc hv => h3b c hc (fun h => hv (by rw [h]; exact hcv)))
    have hsl4 := hsl3.at (H' := hset H3 b (.row 64 0 (vs.set x (.map none)) n)) (fun c hc => hsn (by have := hob c hc; omega))
    have hss : sortN d = sortN ks := sort_perm hpm
    have hfr4 : ∀ c, c < N → c ≠ b → (∀ i : Nat, vs[i]? ≠ some (.map (some c))) → (hset H3 b (.row 64 0 (vs.set x (.map none)) n)) c = H c := fun c h1 h2 h3 => (hsn h2).trans ((h3b c h1 (fun h => h3 x (by rw [h]; exact hcv))).trans (hfr c h1 h2 h3))
    rw [show (0 : Nat) + x - 0 = x by omega]
    refine wc_ret U ?_
    repeat (first|refine ret1 ?_|refine ret2 ?_)
    exact end1 U (.inl rfl) rfl (v := ov) rfl ⟨F', d, hpm, hTk, hss ▸ hsl4, (fun c hc => by have := hob c hc; omega), hfin, hfr4, by omega⟩
  · skip
    obtain ⟨u, hu, rfl⟩ := kmE_get hq
    rw [hset_hset, kmE_erase]
    refine wr U ((rd_extract U rfl rfl).to (v' := (.bool true)) rfl) rfl rfl ?_
    refine wz U ?_
    repeat (first|refine nt ?_|refine nq ?_|refine wq U ?_)
    refine wcd U (t := true) rfl (fun _ => ?_) (fun h => nomatch h)
    refine wsk U ?_
    repeat (first|refine nt ?_|refine nq ?_)
    have hul : u ∈ left := List.mem_of_getElem? hu
    have huk : u ∈ ks := hpm.mem_iff.1 (by simp [hul])
    obtain ⟨hux, hun, ku, hku⟩ := hsym u huk
    have hnd2 : (d ++ left).Nodup := hpm.nodup_iff.2 hnd
    have hud : u ∉ d := fun h => (List.nodup_append.1 hnd2).2.2 u h u hul rfl
    have hxd : x ∉ d := fun h => (hsym x (hpm.mem_iff.1 (by simp [h]))).1 rfl
    have hFu := hTk.yes u ku hku; rw [if_neg hud] at hFu; have hFx := hTk.yes x ks hx; rw [if_neg hxd] at hFx
    obtain ⟨cu, hvu, hcuL, hcuN, hcum⟩ := hFb.at hFu
    obtain ⟨cm2, hvx, _, _, hcm2⟩ := hFb.at hFx; obtain rfl : cm2 = cm := by rw [hcv] at hvx; cases hvx; rfl
    have hcc : cu ≠ cm2 := by rintro rfl; exact hux (hFb.f.ne u x cu hvu hvx)
    have hov2 := hov.at (H' := hset Hb cm2 (.mapr (kmE ks) N (kmE (left.eraseIdx q)) (some (.int .i64 ((u : Nat) : Int), .bool true)))) (fun c hc => by have := hob c hc; rw [hsn (by omega), hsn (by omega)])
    repeat (first|refine nt ?_|refine nq ?_|refine wq U ?_)
    refine wc_block U ?_
    repeat (first|refine nt ?_|refine nq ?_|refine wq U ?_)
    refine wg U ?_
    refine wr U ((rd_entry U hsy rfl).to (v' := (.tuple #[(.int .i64 ((u : Nat) : Int)), (.bool true)])) rfl) rfl rfl ?_
    refine wr U ((rd_extract U rfl rfl).to (v' := (.int .i64 ((u : Nat) : Int))) rfl) rfl rfl ?_
    refine wr U ((ra U).to (v' := (.int .i64 ((u : Nat) : Int))) rfl) rfl rfl ?_
    refine wz U ?_
    repeat (first|refine nt ?_|refine nq ?_|refine wq U ?_)
    refine wg U ?_
    refine wr U ((rm U).to (v' := ov) rfl) rfl rfl ?_
    refine wr U ((rm U).to (v' := (.int .i64 ((u : Nat) : Int))) rfl) rfl rfl ?_
    refine wl_op U rfl rfl (op_bs U sl_26 rfl (by decide) (by decide) [(.int .i64 ((u : Nat) : Int))] rfl (by simp [Value.cells]) rfl (cs := [(.int .i64 ((u : Nat) : Int))]) rfl ?_)
    have hdl : d.length ≤ 64 := by have := hpm.length_eq; rw [List.length_append] at this; omega
    refine wl_op U rfl rfl (op_append1 U (H0 := _) (cs := nats d) (ys := [(.int .i64 ((u : Nat) : Int))]) sl_26 rfl (by decide) rfl hov2 (fun hc => by have := (hov.lt hlt2 hc).2; omega) rfl rfl rfl (by omega) (one1 rfl) (by rw [nats_length]; omega) (by rw [nats_length]; omega) ?_)
    intro wA HA NA hNA hslA hfrA hloA
    refine wr U ((ra U).to (v' := wA) rfl) rfl rfl ?_
    refine wz U ?_
    repeat (first|refine nt ?_|refine nq ?_)
    have hA : ∀ c, c < N → HA c = (hset Hb cm2 (.mapr (kmE ks) N (kmE (left.eraseIdx q)) (some (.int .i64 ((u : Nat) : Int), .bool true)))) c := fun c hc => (hfrA c (by omega) (fun h => by have := hob _ h; omega)).trans (hsn (by omega))
    have hAb : HA b = some (.row 64 0 vs n) := (hA b (by omega)).trans ((hsn (by omega)).trans hFb.row)
    have hAu : HA cu = some (.map (encM encI (km ku))) := (hA cu hcuN).trans ((hsn hcc).trans hcum)
    have hAm := (hA cm2 (by omega)).trans hsy
    repeat (first|refine nt ?_|refine nq ?_|refine wq U ?_)
    refine wg U ?_
    refine wr U ((rm U).to (v' := (.slice (some ⟨b, 0, none⟩) n n)) rfl) rfl rfl ?_
    refine wr U ((rm U).to (v' := (.int .i64 ((u : Nat) : Int))) rfl) rfl rfl ?_
    refine wr U (rd_idx1 U (j := u) sl_134 rfl rfl hun) rfl rfl ?_
    refine wr U (rl1 U el_64 rfl (v := (.map (some cu))) (rd_at U (by omega) hAb hvu)) rfl rfl ?_
    refine wr U ((rm U).to (v' := (.int .i64 ((x : Nat) : Int))) rfl) rfl rfl ?_
    refine wl_op0 U rfl (op_delete U (m := km ku) (k := ((x : Nat) : Int)) rfl um_64 key_int rfl rfl hAu ?_)
    refine wz U ?_
    repeat (first|refine nt ?_|refine nq ?_)
    rw [del_km]
    have hturn := hFb.turn U hR hvu hcuL (ku.erase x) hun
    refine ⟨m - 1, by have := List.length_pos_of_mem hul; omega, d ++ [u], left.eraseIdx q, wA, hset (hset HA cu (.map (kmE (ku.erase x)))) cm2 (.map (kmE ks)), some (.int .i64 ((u : Nat) : Int), .bool true), F'.set u (some (ku.erase x)), ?_, ?_, ?_, ⟨rfl, rfl, rfl, rfl, trivial⟩, ?_, ?_, hTk.next hku hud hun, ?_, ?_, ?_, by omega⟩
    · have := List.length_pos_of_mem hul; simp; omega
    · rw [List.length_eraseIdx, if_pos (by rcases Nat.lt_or_ge q left.length with h | h; exact h; rw [List.getElem?_eq_none h] at hu; cases hu)]; omega
    · rw [List.append_assoc]; exact ((perm_eraseIdx hu).append_left d).trans hpm
    · rw [hset_hset]; funext c; by_cases hc : c = cm2
      · rw [hc, hsy, hsn (Ne.symm hcc)]; exact hAm
      · rw [hsn (c := cm2) hc]; rfl
    · refine hturn.keep U hR (fun c hc => ?_) (Nat.le_refl _)
      unfold hset; split
      · rename_i h; subst h; rw [if_neg (Ne.symm hcc)]; exact hcm2.symm
      · split; rfl; rename_i h1 h2; rw [hA c hc, hsn h1]
    · rw [nats_append]; exact hslA.at fun c hc => by
        have : N ≤ c := by obtain ⟨c2, h1, h2, h3⟩ := hloA; rw [h1] at hc; cases hc; rcases h3 with h3 | h3; have := hob _ h3; omega; omega
        rw [hsn (by omega)]
    · intro c hc; obtain ⟨c2, h1, h2, h3⟩ := hloA; rw [h1] at hc; cases hc; rcases h3 with h3 | h3; exact hob _ h3; omega
    · intro c h1 h2 h3
      have hn1 : c ≠ cm2 := fun h => h3 x (by rw [h]; exact hcv)
      have hn2 : c ≠ cu := fun h => h3 u (by rw [h]; exact hvu)
      rw [hsn hn1, hsn hn2, hA c h1, hsn hn1]; exact hfr c h1 h2 h3
end Go.Proofs.YtdmodppoellbkaaGreat
namespace Go.Proofs.YtdmodppoellbkaaGreat
open Go Go.RowKit
theorem ofInt_small (a : Nat) (ha : a < 4611686018427387904) : (BitVec.ofInt 64 (a : Int)).toNat = a := by
  rw [BitVec.toNat_ofInt]; omega
theorem bits_and {a b : Nat} (ha : a < 4611686018427387904) (hb : b < 4611686018427387904) (w : World) : (Op.intBits .and .i64 ((a : Nat) : Int) ((b : Nat) : Int)).run P w = .ok (.int .i64 (((a &&& b : Nat)) : Int)) w := by
  have h1 : (BitVec.ofInt IntKind.i64.bits ((a : Nat) : Int) &&& BitVec.ofInt IntKind.i64.bits ((b : Nat) : Int)).toNat = a &&& b := by
    rw [BitVec.toNat_and]
    exact congr (congrArg HAnd.hAnd (ofInt_small a ha)) (ofInt_small b hb)
  have h2 : a &&& b ≤ a := Nat.and_le_left
  simp only [Op.intBits, h1, Sem.run_pure]
  rw [wrap_id (by omega) (by omega)]
theorem bits_or {a b : Nat} (ha : a < 4611686018427387904) (hb : b < 4611686018427387904) (w : World) : (Op.intBits .or .i64 ((a : Nat) : Int) ((b : Nat) : Int)).run P w = .ok (.int .i64 (((a ||| b : Nat)) : Int)) w := by
  have h1 : (BitVec.ofInt IntKind.i64.bits ((a : Nat) : Int) ||| BitVec.ofInt IntKind.i64.bits ((b : Nat) : Int)).toNat = a ||| b := by
    rw [BitVec.toNat_or]
    exact congr (congrArg HOr.hOr (ofInt_small a ha)) (ofInt_small b hb)
  have h2 : a ||| b < 2 ^ 62 := Nat.or_lt_two_pow (by omega) (by omega)
  simp only [Op.intBits, h1, Sem.run_pure]
  rw [wrap_id (by omega) (by omega)]
theorem rd_shrU (U : Cx) {T : Tm} {R : Hp} {dst : Option Tmp} {t u : TypeId} {ty : TypeId} {pos : String} {after : Array Edge} {guard : Option (Nat × Bool)} {x y : Operand} {p q : Int} {k : IntKind} (hx : ev T x = .int .u64 p) (hy : ev T y = .int k q) (h0 : 0 ≤ q) (h1 : q ≤ 64) :
    Rd U ⟨dst, .binOp .shr t x y u, ty, pos, after, guard⟩ T R (.int .u64 (p / 2 ^ q.toNat)) := fun a w he hh => by
  have hm : min q.toNat IntKind.u64.bits = q.toNat := by simp [IntKind.bits]; omega
  simp [execOp, eqGuard, binOp, Op.shift, he, hx, hy, Int.not_lt.2 h0, hm]
end Go.Proofs.YtdmodppoellbkaaGreat
namespace Go.Proofs.YtdmodppoellbkaaGreat
open Go Go.RowKit
variable (U : Cx)
theorem s114 (x : Int) (H : Hp) (N : Nat) : Spec U 114 #[(.int .i64 x)] H N (fun v H' N' => v = .bool false ∧ H = H' ∧ N = N') := by
  refine spa U pf_114 (m := 6) rfl rfl (by simp) fun hBN hlt => ?_
  obtain ⟨J, hJ⟩ := Has.ex (T := argsT #[(.int .i64 x)]) (l := [(0, (.int .i64 x))]) ⟨rfl, trivial⟩
  rw [hJ]; clear hJ
  repeat (first|refine nt ?_|refine nq ?_|refine wq U ?_)
  refine wg U ?_
  refine wr U ((ra U).to (v' := (.bool false)) rfl) rfl rfl ?_
  refine wz U ?_
  repeat (first|refine nt ?_|refine nq ?_|refine wq U ?_)
  refine wg U ?_
  refine wr U ((rm U).to (v' := (.int .i64 x)) rfl) rfl rfl ?_
  refine wr U ((rm U).to (v' := (.int .i64 x)) rfl) rfl rfl ?_
  refine wr U (rd_neq U rfl rfl) rfl rfl ?_
  refine wr U ((ra U).to (v' := (.bool (decide (x ≠ x)))) rfl) rfl rfl ?_
  refine wz U ?_
  refine wc_ret U ?_
  repeat (first|refine ret1 ?_|refine ret2 ?_)
  exact end1 U (.inl rfl) rfl (v := (.bool (decide (x ≠ x)))) rfl ⟨by simp, rfl, rfl⟩
theorem s71 (x y : Int) (H : Hp) (N : Nat) : Spec U 71 #[(.int .i64 x), (.int .i64 y)] H N (fun v H' N' => v = .bool (decide (x < y)) ∧ H = H' ∧ N = N') := by
  refine spa U pf_71 (m := 17) rfl rfl (by simp) fun hBN hlt => ?_
  obtain ⟨J, hJ⟩ := Has.ex (T := argsT #[(.int .i64 x), (.int .i64 y)]) (l := [(0, (.int .i64 x)), (1, (.int .i64 y))]) ⟨rfl, rfl, trivial⟩
  rw [hJ]; clear hJ
  repeat (first|refine nt ?_|refine nq ?_|refine wq U ?_)
  refine wg U ?_
  refine wr U ((ra U).to (v' := (.bool false)) rfl) rfl rfl ?_
  refine wz U ?_
  repeat (first|refine nt ?_|refine nq ?_|refine wq U ?_)
  refine wg U ?_
  refine wr U ((rm U).to (v' := (.int .i64 x)) rfl) rfl rfl ?_
  refine wl_op U rfl rfl (op_call U Tryz.f88 rfl rfl pf_88 (by kernel_rfl) (by kernel_rfl) ((s88 U x H N).mono U ?_))
  rintro _ _ _ ⟨rfl, rfl, rfl⟩
  refine wr U ((rm U).to (v' := (.bool false)) rfl) rfl rfl ?_
  refine wl_pass U rfl rfl ?_
  refine wl_pass U rfl rfl ?_
  refine wl_pass U rfl rfl ?_
  refine wr U ((rd_pick U rfl).to (v' := (.bool false)) rfl) rfl rfl ?_
  refine wr U ((rm U).to (v' := (.bool false)) rfl) rfl rfl ?_
  refine wr U ((rm U).to (v' := (.int .i64 x)) rfl) rfl rfl ?_
  refine wr U ((rm U).to (v' := (.int .i64 y)) rfl) rfl rfl ?_
  refine wr U (rd_lss U rfl rfl) rfl rfl ?_
  refine wr U ((rd_pick U rfl).to (v' := (.bool (decide (x < y)))) rfl) rfl rfl ?_
  refine wr U ((ra U).to (v' := (.bool (decide (x < y)))) rfl) rfl rfl ?_
  refine wz U ?_
  refine wc_ret U ?_
  repeat (first|refine ret1 ?_|refine ret2 ?_)
  exact end1 U (.inl rfl) rfl (v := (.bool (decide (x < y)))) rfl ⟨rfl, rfl, rfl⟩
end Go.Proofs.YtdmodppoellbkaaGreat
namespace Go.Proofs.YtdmodppoellbkaaGreat
open Go Go.RowKit
variable (U : Cx)
theorem s96 (xs : List Nat) (sv : Value) (k : Nat) (hk : k < xs.length) (hs : xs.Pairwise (· < ·)) (hl : xs.length ≤ 1000) (hb : ∀ x ∈ xs, x < 1000000) (H : Hp) (N : Nat) (hv : RdS U H sv 1 (nats xs)) : Spec U 96 #[sv, (.int .i64 ((xs[k] : Nat) : Int))] H N (fun v H' N' => v = .tuple #[.int .i64 ((k : Nat) : Int), .bool true] ∧ H = H' ∧ N = N') := by
  obtain ⟨p, cap, rfl, hc, hp⟩ := hv.nums U
  obtain ⟨b, off, rfl⟩ := hp (by omega)
  refine spa U pf_96 (m := 54) rfl rfl (by simp) fun hBN hlt => ?_
  obtain ⟨J, hJ⟩ := Has.ex (T := argsT #[(.slice (some ⟨b, off, none⟩) xs.length cap), (.int .i64 ((xs[k] : Nat) : Int))]) (l := [(0, (.slice (some ⟨b, off, none⟩) xs.length cap)), (1, (.int .i64 ((xs[k] : Nat) : Int)))]) ⟨rfl, rfl, trivial⟩
  rw [hJ]; clear hJ
  repeat (first|refine nt ?_|refine nq ?_|refine wq U ?_)
  refine wg U ?_
  refine wr U ((ra U).to (v' := (.int .i64 0)) rfl) rfl rfl ?_
  refine wr U ((ra U).to (v' := (.bool false)) rfl) rfl rfl ?_
  refine wz U ?_
  repeat (first|refine nt ?_|refine nq ?_|refine wq U ?_)
  refine wg U ?_
  refine wr U ((rm U).to (v' := (.slice (some ⟨b, off, none⟩) xs.length cap)) rfl) rfl rfl ?_
  refine wr U ((rd_len' U sl_26 rfl).to (v' := (.int .i64 ((xs.length : Nat) : Int))) rfl) rfl rfl ?_
  refine wr U ((ra U).to (v' := (.int .i64 ((xs.length : Nat) : Int))) rfl) rfl rfl ?_
  refine wz U ?_
  repeat (first|refine nt ?_|refine nq ?_|refine wq U ?_)
  refine wg U ?_
  refine wr U ((rm U).to (v' := (.int .i64 ((xs.length : Nat) : Int))) rfl) rfl rfl ?_
  refine wr U ((ra U).to (v' := (.int .i64 0)) rfl) rfl rfl ?_
  refine wr U ((ra U).to (v' := (.int .i64 ((xs.length : Nat) : Int))) rfl) rfl rfl ?_
  refine wz U ?_
  repeat (first|refine nt ?_|refine nq ?_|refine wq U ?_)
  refine wc_block U ?_
  refine wc_loop U (fun m T H' N' => ∃ (i j : Nat), i ≤ k ∧ k ≤ j ∧ j ≤ xs.length ∧ m = j - i ∧ Has T [(0, (.slice (some ⟨b, off, none⟩) xs.length cap)), (1, (.int .i64 ((xs[k] : Nat) : Int))), (6, (.int .i64 ((xs.length : Nat) : Int))), (7, (.int .i64 ((i : Nat) : Int))), (8, (.int .i64 ((j : Nat) : Int)))] ∧ H = H' ∧ N = N') xs.length ⟨0, xs.length, by omega, by omega, by omega, rfl, ⟨rfl, rfl, rfl, rfl, rfl, trivial⟩, rfl, rfl⟩ ?_
  rintro m T _ _ ⟨i, j, hi, hj, hjl, rfl, hT, rfl, rfl⟩
  obtain ⟨J, rfl⟩ := hT.ex
  repeat (first|refine nt ?_|refine nq ?_|refine wq U ?_)
  refine wg U ?_
  refine wr U ((rm U).to (v' := (.int .i64 ((i : Nat) : Int))) rfl) rfl rfl ?_
  refine wr U ((rm U).to (v' := (.int .i64 ((j : Nat) : Int))) rfl) rfl rfl ?_
  refine wr U (rd_lss U rfl rfl) rfl rfl ?_
  refine wz U ?_
  repeat (first|refine nt ?_|refine nq ?_|refine wq U ?_)
  refine wcd U (t := (decide (((i : Nat) : Int) < ((j : Nat) : Int)))) rfl (fun hck => ?_) fun hck => ?_
  · replace hck := of_decide_eq_true hck
    refine wsk U ?_
    repeat (first|refine nt ?_|refine nq ?_)
    repeat (first|refine nt ?_|refine nq ?_|refine wq U ?_)
    refine wc_block U ?_
    repeat (first|refine nt ?_|refine nq ?_|refine wq U ?_)
    refine wg U ?_
    have hw : IntKind.u64.wrap (((i : Nat) : Int) + ((j : Nat) : Int)) = (((i + j : Nat)) : Int) := by simp [IntKind.wrap, IntKind.bits, IntKind.signed]; omega
    refine wr U ((rm U).to (v' := (.int .i64 ((i : Nat) : Int))) rfl) rfl rfl ?_
    refine wr U ((rm U).to (v' := (.int .i64 ((j : Nat) : Int))) rfl) rfl rfl ?_
    refine wr U (rd_add U rfl rfl (by omega) (by omega)) rfl rfl ?_
    refine wr U ((rd_conv U u_3 u_77 rfl).to (v' := (.int .u64 ((i + j : Nat) : Int))) (congrArg _ hw)) rfl rfl ?_
    refine wr U ((rd_shrU U rfl rfl (by decide) (by decide)).to (v' := (.int .u64 (((i + j) / 2 : Nat) : Int))) (congrArg _ (by show ((i + j : Nat) : Int) / 2 = _; omega))) rfl rfl ?_
    refine wr U ((rd_conv U u_77 u_3 rfl).to (v' := (.int .i64 (((i + j) / 2 : Nat) : Int))) (congrArg _ (wrap_id (by omega) (by omega)))) rfl rfl ?_
    refine wr U ((ra U).to (v' := (.int .i64 (((i + j) / 2 : Nat) : Int))) rfl) rfl rfl ?_
    refine wz U ?_
    have hh : (i + j) / 2 < xs.length := by omega
    repeat (first|refine nt ?_|refine nq ?_|refine wq U ?_)
    refine wg U ?_
    refine wr U ((rm U).to (v' := (.slice (some ⟨b, off, none⟩) xs.length cap)) rfl) rfl rfl ?_
    refine wr U ((rm U).to (v' := (.int .i64 (((i + j) / 2 : Nat) : Int))) rfl) rfl rfl ?_
    refine wr U (rd_idxI1 U ((i + j) / 2) sl_26 rfl rfl rfl hh) rfl rfl ?_
    refine wr U (rl1 U el_3 rfl (v := (.int .i64 ((xs[(i + j) / 2] : Nat) : Int))) (hv.n0 U hh)) rfl rfl ?_
    refine wr U ((rm U).to (v' := (.int .i64 ((xs[k] : Nat) : Int))) rfl) rfl rfl ?_
    refine wl_op U rfl rfl (op_call U Tryz.f71 rfl rfl pf_71 (by kernel_rfl) (by kernel_rfl) ((s71 U xs[(i + j) / 2] xs[k] H N).mono U ?_))
    rintro _ _ _ ⟨rfl, rfl, rfl⟩
    refine wz U ?_
    repeat (first|refine nt ?_|refine nq ?_|refine wq U ?_)
    refine wcd U (t := (decide (((xs[(i + j) / 2] : Nat) : Int) < ((xs[k] : Nat) : Int)))) rfl (fun hlt2 => ?_) fun hlt2 => ?_
    · replace hlt2 := of_decide_eq_true hlt2
      have hhk : (i + j) / 2 < k := by rcases Nat.lt_trichotomy ((i + j) / 2) k with h | h | h; exact h; simp only [h] at hlt2; omega; have := List.pairwise_iff_getElem.1 hs _ _ hk hh h; omega
      repeat (first|refine nt ?_|refine nq ?_|refine wq U ?_)
      refine wg U ?_
      refine wr U ((rm U).to (v' := (.int .i64 (((i + j) / 2 : Nat) : Int))) rfl) rfl rfl ?_
      refine wr U (rd_add U rfl rfl (by omega) (by omega)) rfl rfl ?_
      refine wr U ((ra U).to (v' := (.int .i64 ((((i + j) / 2 : Nat) : Int) + 1))) rfl) rfl rfl ?_
      refine wz U ?_
      repeat (first|refine nt ?_|refine nq ?_)
      exact ⟨j - ((i + j) / 2 + 1), by omega, (i + j) / 2 + 1, j, by omega, hj, hjl, rfl, ⟨rfl, rfl, rfl, rfl, rfl, trivial⟩, rfl, rfl⟩
    · replace hlt2 := of_decide_eq_false hlt2
      have hhk : k ≤ (i + j) / 2 := by rcases Nat.lt_or_ge ((i + j) / 2) k with h | h; have := List.pairwise_iff_getElem.1 hs _ _ hh hk h; omega; exact h
      repeat (first|refine nt ?_|refine nq ?_|refine wq U ?_)
      refine wg U ?_
      refine wr U ((rm U).to (v' := (.int .i64 (((i + j) / 2 : Nat) : Int))) rfl) rfl rfl ?_
      refine wr U ((ra U).to (v' := (.int .i64 (((i + j) / 2 : Nat) : Int))) rfl) rfl rfl ?_
      refine wz U ?_
      repeat (first|refine nt ?_|refine nq ?_)
      exact ⟨(i + j) / 2 - i, by omega, i, (i + j) / 2, hi, hhk, by omega, rfl, ⟨rfl, rfl, rfl, rfl, rfl, trivial⟩, rfl, rfl⟩
  · replace hck := of_decide_eq_false hck
    refine wc_exit U ?_
    repeat (first|refine xt ?_|refine xps (by decide) ?_)
    refine xbl ?_
    repeat (first|refine nt ?_|refine nq ?_)
    obtain rfl : i = k := by omega
    repeat (first|refine nt ?_|refine nq ?_|refine wq U ?_)
    refine wg U ?_
    refine wr U ((rm U).to (v' := (.int .i64 ((i : Nat) : Int))) rfl) rfl rfl ?_
    refine wr U ((rm U).to (v' := (.int .i64 ((i : Nat) : Int))) rfl) rfl rfl ?_
    refine wr U ((rm U).to (v' := (.int .i64 ((xs.length : Nat) : Int))) rfl) rfl rfl ?_
    refine wr U ((rd_lss U rfl rfl).to (v' := (.bool true)) (congrArg Value.bool (decide_eq_true (by omega)))) rfl rfl ?_
    refine wr U ((rm U).to (v' := (.bool true)) rfl) rfl rfl ?_
    refine wr U ((rm U).to (v' := (.slice (some ⟨b, off, none⟩) xs.length cap)) rfl) rfl rfl ?_
    refine wr U ((rm U).to (v' := (.int .i64 ((i : Nat) : Int))) rfl) rfl rfl ?_
    refine wr U (rd_idx1 U (j := i) sl_26 rfl rfl (by omega)) rfl rfl ?_
    refine wr U (rl1 U el_3 rfl (v := (.int .i64 ((xs[i] : Nat) : Int))) (hv.n0 U hk)) rfl rfl ?_
    refine wr U ((rm U).to (v' := (.int .i64 ((xs[i] : Nat) : Int))) rfl) rfl rfl ?_
    refine wr U ((rd_eql U rfl rfl).to (v' := (.bool true)) (congrArg Value.bool (decide_eq_true rfl))) rfl rfl ?_
    refine wr U ((rm U).to (v' := (.bool true)) rfl) rfl rfl ?_
    refine wl_pass U rfl rfl ?_
    refine wl_pass U rfl rfl ?_
    refine wl_pass U rfl rfl ?_
    refine wl_pass U rfl rfl ?_
    refine wl_pass U rfl rfl ?_
    refine wl_pass U rfl rfl ?_
    refine wl_pass U rfl rfl ?_
    refine wl_pass U rfl rfl ?_
    refine wl_pass U rfl rfl ?_
    refine wr U ((rd_pick U rfl).to (v' := (.bool true)) rfl) rfl rfl ?_
    refine wr U ((rd_pick U rfl).to (v' := (.bool true)) rfl) rfl rfl ?_
    refine wr U ((ra U).to (v' := (.int .i64 ((i : Nat) : Int))) rfl) rfl rfl ?_
    refine wr U ((ra U).to (v' := (.bool true)) rfl) rfl rfl ?_
    refine wz U ?_
    refine wc_ret U ?_
    repeat (first|refine ret1 ?_|refine ret2 ?_)
    exact end2 U (.inl rfl) rfl (v := (.int .i64 ((i : Nat) : Int))) (v' := (.bool true)) rfl rfl ⟨rfl, rfl, rfl⟩
end Go.Proofs.YtdmodppoellbkaaGreat
namespace Go.Proofs.YtdmodppoellbkaaGreat
open Go Go.RowKit
variable (U : Cx)
theorem s111 (xs : List Nat) (sv : Value) (x : Nat) (hl : xs.length ≤ 10000) (H : Hp) (N : Nat) (hv : RdS U H sv 1 (nats xs)) : Spec U 111 #[sv, (.int .i64 ((x : Nat) : Int))] H N (fun v H' N' => (∃ r : Int, v = .int .i64 r ∧ (0 ≤ r ↔ x ∈ xs)) ∧ H = H' ∧ N = N') := by
  obtain ⟨p, cap, rfl, hc, hp⟩ := hv.nums U
  refine spa U pf_111 (m := 19) rfl rfl (by simp) fun hBN hlt => ?_
  obtain ⟨J, hJ⟩ := Has.ex (T := argsT #[(.slice p xs.length cap), (.int .i64 ((x : Nat) : Int))]) (l := [(0, (.slice p xs.length cap)), (1, (.int .i64 ((x : Nat) : Int)))]) ⟨rfl, rfl, trivial⟩
  rw [hJ]; clear hJ
  repeat (first|refine nt ?_|refine nq ?_|refine wq U ?_)
  refine wg U ?_
  refine wr U ((ra U).to (v' := (.int .i64 0)) rfl) rfl rfl ?_
  refine wz U ?_
  repeat (first|refine nt ?_|refine nq ?_|refine wq U ?_)
  refine wg U ?_
  refine wr U ((rm U).to (v' := (.slice p xs.length cap)) rfl) rfl rfl ?_
  refine wr U ((rd_len' U sl_26 rfl).to (v' := (.int .i64 ((xs.length : Nat) : Int))) rfl) rfl rfl ?_
  refine wr U ((rm U).to (v' := (.int .i64 0)) rfl) rfl rfl ?_
  refine wz U ?_
  repeat (first|refine nt ?_|refine nq ?_|refine wq U ?_)
  refine wc_block U ?_
  refine wc_loop U (fun m T H' N' => ∃ (i : Nat), i ≤ xs.length ∧ m = xs.length - i ∧ Has T [(0, (.slice p xs.length cap)), (1, (.int .i64 ((x : Nat) : Int))), (6, (.slice p xs.length cap)), (7, (.int .i64 ((xs.length : Nat) : Int))), (8, (.int .i64 ((i : Nat) : Int)))] ∧ H = H' ∧ N = N' ∧ x ∉ xs.take i) xs.length ⟨0, by omega, rfl, ⟨rfl, rfl, rfl, rfl, rfl, trivial⟩, rfl, rfl, by simp⟩ ?_
  rintro m T _ _ ⟨i, hi, rfl, hT, rfl, rfl, hno⟩
  obtain ⟨J, rfl⟩ := hT.ex
  repeat (first|refine nt ?_|refine nq ?_|refine wq U ?_)
  refine wg U ?_
  refine wr U (rd_lss U rfl rfl) rfl rfl ?_
  refine wz U ?_
  repeat (first|refine nt ?_|refine nq ?_|refine wq U ?_)
  refine wcd U (t := (decide (((i : Nat) : Int) < ((xs.length : Nat) : Int)))) rfl (fun hck => ?_) fun hck => ?_
  · replace hck := of_decide_eq_true hck
    refine wsk U ?_
    repeat (first|refine nt ?_|refine nq ?_)
    have hi1 : i < xs.length := by omega
    obtain ⟨b, off, rfl⟩ := hp (by omega)
    repeat (first|refine nt ?_|refine nq ?_|refine wq U ?_)
    refine wc_block U ?_
    repeat (first|refine nt ?_|refine nq ?_|refine wq U ?_)
    refine wg U ?_
    refine wr U ((rm U).to (v' := (.int .i64 ((i : Nat) : Int))) rfl) rfl rfl ?_
    refine wr U ((ra U).to (v' := (.int .i64 ((i : Nat) : Int))) rfl) rfl rfl ?_
    refine wz U ?_
    repeat (first|refine nt ?_|refine nq ?_|refine wq U ?_)
    refine wg U ?_
    refine wr U ((rm U).to (v' := (.int .i64 ((x : Nat) : Int))) rfl) rfl rfl ?_
    refine wr U ((rm U).to (v' := (.slice (some ⟨b, off, none⟩) xs.length cap)) rfl) rfl rfl ?_
    refine wr U ((rm U).to (v' := (.int .i64 ((i : Nat) : Int))) rfl) rfl rfl ?_
    refine wr U (rd_idx1 U (j := i) sl_26 rfl rfl (by omega)) rfl rfl ?_
    refine wr U (rl1 U el_3 rfl (v := (.int .i64 ((xs[i] : Nat) : Int))) (hv.n0 U hi1)) rfl rfl ?_
    refine wr U (rd_eql U rfl rfl) rfl rfl ?_
    refine wz U ?_
    repeat (first|refine nt ?_|refine nq ?_|refine wq U ?_)
    refine wcd U (t := (decide (((x : Nat) : Int) = ((xs[i] : Nat) : Int)))) rfl (fun he => ?_) fun he => ?_
    · replace he := of_decide_eq_true he
      have hm : x ∈ xs := by rw [show x = xs[i] by omega]; exact List.getElem_mem hi1
      repeat (first|refine nt ?_|refine nq ?_|refine wq U ?_)
      refine wg U ?_
      refine wr U ((rm U).to (v' := (.int .i64 ((i : Nat) : Int))) rfl) rfl rfl ?_
      refine wr U ((ra U).to (v' := (.int .i64 ((i : Nat) : Int))) rfl) rfl rfl ?_
      refine wz U ?_
      refine wc_ret U ?_
      repeat (first|refine ret1 ?_|refine ret2 ?_)
      exact end1 U (.inl rfl) rfl (v := (.int .i64 ((i : Nat) : Int))) rfl ⟨⟨_, rfl, ⟨fun _ => hm, fun _ => by omega⟩⟩, rfl, rfl⟩
    · replace he := of_decide_eq_false he
      refine wsk U ?_
      repeat (first|refine nt ?_|refine nq ?_)
      repeat (first|refine nt ?_|refine nq ?_|refine wq U ?_)
      refine wg U ?_
      refine wr U (rd_add U rfl rfl (by omega) (by omega)) rfl rfl ?_
      refine wr U ((rm U).to (v' := (.int .i64 (((i : Nat) : Int) + 1))) rfl) rfl rfl ?_
      refine wz U ?_
      repeat (first|refine nt ?_|refine nq ?_)
      exact ⟨xs.length - (i + 1), by omega, i + 1, by omega, rfl, ⟨rfl, rfl, rfl, rfl, rfl, trivial⟩, rfl, rfl, by rw [List.take_succ_eq_append_getElem hi1, List.mem_append, List.mem_singleton]; rintro (h | h); exact hno h; omega⟩
  · replace hck := of_decide_eq_false hck
    refine wc_exit U ?_
    repeat (first|refine xt ?_|refine xps (by decide) ?_)
    refine xbl ?_
    repeat (first|refine nt ?_|refine nq ?_)
    rw [List.take_of_length_le (by omega)] at hno
    repeat (first|refine nt ?_|refine nq ?_|refine wq U ?_)
    refine wg U ?_
    refine wr U ((ra U).to (v' := (.int .i64 (-1))) rfl) rfl rfl ?_
    refine wz U ?_
    refine wc_ret U ?_
    repeat (first|refine ret1 ?_|refine ret2 ?_)
    exact end1 U (.inl rfl) rfl (v := (.int .i64 (-1))) rfl ⟨⟨_, rfl, ⟨fun h => by omega, fun h => absurd h hno⟩⟩, rfl, rfl⟩
theorem s92 (xs : List Nat) (sv : Value) (x : Nat) (hl : xs.length ≤ 10000) (H : Hp) (N : Nat) (hv : RdS U H sv 1 (nats xs)) : Spec U 92 #[sv, (.int .i64 ((x : Nat) : Int))] H N (fun v H' N' => v = .bool (decide (x ∈ xs)) ∧ H = H' ∧ N = N') := by
  refine spa U pf_92 (m := 9) rfl rfl (by simp) fun hBN hlt => ?_
  obtain ⟨J, hJ⟩ := Has.ex (T := argsT #[sv, (.int .i64 ((x : Nat) : Int))]) (l := [(0, sv), (1, (.int .i64 ((x : Nat) : Int)))]) ⟨rfl, rfl, trivial⟩
  rw [hJ]; clear hJ
  repeat (first|refine nt ?_|refine nq ?_|refine wq U ?_)
  refine wg U ?_
  refine wr U ((ra U).to (v' := (.bool false)) rfl) rfl rfl ?_
  refine wz U ?_
  repeat (first|refine nt ?_|refine nq ?_|refine wq U ?_)
  refine wg U ?_
  refine wr U ((rm U).to (v' := sv) rfl) rfl rfl ?_
  refine wr U ((rm U).to (v' := (.int .i64 ((x : Nat) : Int))) rfl) rfl rfl ?_
  refine wl_op U rfl rfl (op_call U Tryz.f111 rfl rfl pf_111 (by kernel_rfl) (by kernel_rfl) ((s111 U xs sv x hl H N hv).mono U ?_))
  rintro _ _ _ ⟨⟨r, rfl, hr⟩, rfl, rfl⟩
  refine wr U (rd_geq U rfl rfl) rfl rfl ?_
  refine wr U ((ra U).to (v' := (.bool (decide (0 ≤ r)))) rfl) rfl rfl ?_
  refine wz U ?_
  refine wc_ret U ?_
  repeat (first|refine ret1 ?_|refine ret2 ?_)
  exact end1 U (.inl rfl) rfl (v := (.bool (decide (0 ≤ r)))) rfl ⟨by rw [decide_eq_decide.2 hr], rfl, rfl⟩
end Go.Proofs.YtdmodppoellbkaaGreat
namespace Go.Proofs.YtdmodppoellbkaaGreat
def encB : List Nat → (Nat → Bool) → Nat
  | [], _ => 0
  | v :: l, s => (if s v then 1 else 0) + 2 * encB l s
theorem encB_lt (l : List Nat) (s : Nat → Bool) : encB l s < 2 ^ l.length := by
  induction l with
  | nil => simp [encB]
  | cons v l ih => simp only [encB, List.length_cons, Nat.pow_succ]; split <;> omega
theorem encB_bit (l : List Nat) (s : Nat → Bool) : ∀ {i : Nat} (h : i < l.length), (encB l s).testBit i = s l[i] := by
  induction l with
  | nil => intro i h; simp at h
  | cons v l ih =>
    intro i h
    cases i with
    | zero => simp only [encB, Nat.testBit_zero, List.getElem_cons_zero]; cases s v <;> simp <;> omega
    | succ i =>
      have := ih (i := i) (by simpa using h)
      rw [Nat.testBit_succ, encB]
      have e : ((if s v = true then 1 else 0) + 2 * encB l s) / 2 = encB l s := by split <;> omega
      rw [e, this]; rfl
theorem encB_shift (l : List Nat) (s : Nat → Bool) {i : Nat} (h : i < l.length) : encB l s / 2 ^ i % 2 = if s l[i] then 1 else 0 := by
  have := encB_bit l s h
  rw [Nat.testBit_eq_decide_div_mod_eq] at this
  rw [← this]
  by_cases hx : encB l s / 2 ^ i % 2 = 1
  · simp [hx]
  · simp [hx]; omega
theorem encB_append (a b : List Nat) (s : Nat → Bool) : encB (a ++ b) s = encB a s + 2 ^ a.length * encB b s := by
  induction a with
  | nil => simp [encB]
  | cons v a ih =>
    simp only [List.cons_append, encB, ih, List.length_cons, Nat.pow_succ]
    rw [Nat.mul_add, Nat.mul_comm (2 ^ a.length) 2, Nat.mul_assoc]; omega
theorem encB_congr {l : List Nat} {s t : Nat → Bool} (h : ∀ v ∈ l, s v = t v) : encB l s = encB l t := by
  induction l with
  | nil => rfl
  | cons v l ih => simp only [encB, h v (by simp), ih (fun w hw => h w (by simp [hw]))]
/-- Every number of so many bits is a choice. -/
theorem encB_all {l : List Nat} (hn : l.Nodup) : ∀ {c : Nat}, c < 2 ^ l.length → ∃ s : Nat → Bool, encB l s = c := by
  induction l with
  | nil => intro c h; exact ⟨fun _ => false, by simp [encB] at h ⊢; omega⟩
  | cons v l ih =>
    intro c h
    rw [List.nodup_cons] at hn
    obtain ⟨s, hs⟩ := ih hn.2 (c := c / 2) (by simp only [List.length_cons, Nat.pow_succ] at h; omega)
    refine ⟨fun w => if w = v then decide (c % 2 = 1) else s w, ?_⟩
    have h1 : encB l (fun w => if w = v then decide (c % 2 = 1) else s w) = encB l s := encB_congr fun w hw => by
      have : w ≠ v := by rintro rfl; exact hn.1 hw
      simp [this]
    simp only [encB, h1, hs, if_true]
    by_cases hc : c % 2 = 1 <;> simp [hc] <;> omega
theorem encB_take (l : List Nat) (s : Nat → Bool) {i : Nat} (h : i < l.length) : encB (l.take (i + 1)) s = encB (l.take i) s + (if s l[i] then 2 ^ i else 0) := by
  rw [List.take_succ_eq_append_getElem h, encB_append, List.length_take, Nat.min_eq_left (by omega)]
  simp only [encB]; split <;> simp
/-- A bit more, above the others. -/
theorem or_bit {a i : Nat} (h : a < 2 ^ i) : a ||| 2 ^ i = a + 2 ^ i := by
  have := Nat.two_pow_add_eq_or_of_lt h 1
  rw [Nat.mul_one] at this
  rw [Nat.or_comm, ← this]; omega
/-- The choice with one vertex more, in its place: without it. -/
theorem encB_gap (a b : List Nat) (v : Nat) (s : Nat → Bool) (c : Nat) (hc : c = encB (a ++ b) s) (hv : s v = false) : encB (a ++ v :: b) s = c % 2 ^ a.length + (c - c % 2 ^ a.length) * 2 := by
  have h1 := encB_append a b s
  have h2 := encB_lt a s
  have h3 : c % 2 ^ a.length = encB a s := by rw [hc, h1, Nat.add_mul_mod_self_left, Nat.mod_eq_of_lt h2]
  rw [h3, encB_append, hc, h1, encB, hv]
  simp only [Bool.false_eq_true, if_false, Nat.zero_add]
  rw [Nat.add_sub_cancel_left, Nat.mul_assoc, Nat.mul_comm 2 (encB b s)]
theorem encB_set (a b : List Nat) (v : Nat) (s : Nat → Bool) (ha : v ∉ a) (hb : v ∉ b) (hv : s v = false) : encB (a ++ v :: b) (fun w => if w = v then true else s w) = encB (a ++ v :: b) s + 2 ^ a.length := by
  have e1 : encB a (fun w => if w = v then true else s w) = encB a s := encB_congr fun w hw => by
    have : w ≠ v := by rintro rfl; exact ha hw
    simp [this]
  have e2 : encB b (fun w => if w = v then true else s w) = encB b s := encB_congr fun w hw => by
    have : w ≠ v := by rintro rfl; exact hb hw
    simp [this]
  rw [encB_append, encB_append, encB, encB, e1, e2, hv]
  simp only [if_true, Bool.false_eq_true, if_false, Nat.zero_add, Nat.mul_add, Nat.mul_one]; omega
theorem encB_or (a b : List Nat) (v : Nat) (s : Nat → Bool) (ha : v ∉ a) (hb : v ∉ b) (hv : s v = false) : encB (a ++ v :: b) s ||| 2 ^ a.length = encB (a ++ v :: b) (fun w => if w = v then true else s w) := by
  apply Nat.eq_of_testBit_eq
  intro i
  rw [Nat.testBit_or, Nat.testBit_two_pow]
  rcases Nat.lt_or_ge i (a ++ v :: b).length with hi | hi
  · rw [encB_bit _ _ hi, encB_bit _ _ hi]
    by_cases hia : a.length = i
    · subst hia; simp
    · have hne : (a ++ v :: b)[i] ≠ v := by
        intro h
        rcases Nat.lt_or_ge i a.length with h1 | h1
        · rw [List.getElem_append_left h1] at h; exact ha (h ▸ List.getElem_mem h1)
        · obtain ⟨k, rfl⟩ : ∃ k, i = a.length + (k + 1) := ⟨i - a.length - 1, by omega⟩
          have h2 : (a ++ v :: b)[a.length + (k + 1)]? = some v := by rw [List.getElem?_eq_getElem hi, h]
          rw [List.getElem?_append_right (by omega), Nat.add_sub_cancel_left, List.getElem?_cons_succ] at h2
          exact hb (List.mem_of_getElem? h2)
      simp [hia, hne]
  · have h1 : (encB (a ++ v :: b) s).testBit i = false := Nat.testBit_lt_two_pow (Nat.lt_of_lt_of_le (encB_lt _ _) (Nat.pow_le_pow_right (by omega) hi))
    have h2 : (encB (a ++ v :: b) (fun w => if w = v then true else s w)).testBit i = false := Nat.testBit_lt_two_pow (Nat.lt_of_lt_of_le (encB_lt _ _) (Nat.pow_le_pow_right (by omega) hi))
    have h3 : ¬ a.length = i := by simp at hi; omega
    rw [h1, h2]; simp [h3]
end Go.Proofs.YtdmodppoellbkaaGreat
namespace Go.Proofs.YtdmodppoellbkaaGreat
section
/-! ### Steps: vertices that go, each with its neighbours that are left -/
abbrev Fi := List (Option (List Nat))
abbrev St := Nat × List Nat
def Alive (F : Fi) (u : Nat) : Prop := ∃ ks, F[u]? = some (some ks)
/-- Behind the first of 'near' that goes, the others stand in its list. -/
def Cl (near : List Nat) : List St → Prop
  | [] => True
  | x :: post => (x.1 ∈ near → ∀ b ∈ near, b ≠ x.1 → b ∈ x.2) ∧ (x.1 ∉ near → Cl near post)
def Sok (ad : Nat → Nat → Prop) : List St → Prop
  | [] => True
  | x :: post => x.2.Nodup ∧ x.1 ∉ post.map (·.1) ∧ (∀ u ∈ x.2, u ∈ post.map (·.1)) ∧ (∀ u ∈ post.map (·.1), ad x.1 u → u ∈ x.2) ∧ Cl x.2 post ∧ Sok ad post
def ClF (F : Fi) (near : List Nat) : List St → Prop
  | [] => ∀ a ∈ near, ∀ b ∈ near, a ≠ b → ∃ ks, F[a]? = some (some ks) ∧ b ∈ ks
  | x :: post => (x.1 ∈ near → ∀ b ∈ near, b ≠ x.1 → b ∈ x.2) ∧ (x.1 ∉ near → ClF F near post)
def SokF (ad : Nat → Nat → Prop) (F : Fi) : List St → Prop
  | [] => True
  | x :: post => x.2.Nodup ∧ x.1 ∉ post.map (·.1) ∧ ¬ Alive F x.1 ∧ (∀ u ∈ x.2, u ∈ post.map (·.1) ∨ Alive F u) ∧ (∀ u, u ∈ post.map (·.1) ∨ Alive F u → ad x.1 u → u ∈ x.2) ∧ ClF F x.2 post ∧ SokF ad F post
/-- A vertex goes, its neighbours are joined. -/
structure Stp (F F' : Fi) (x : Nat) (ks : List Nat) : Prop where
  at_ : F[x]? = some (some ks)
  gone : F'[x]? = some none
  no : ∀ u : Nat, F[u]? = some none → F'[u]? = some none
  yes : ∀ (u : Nat) (ku : List Nat), u ≠ x → F[u]? = some (some ku) → ∃ ku', F'[u]? = some (some ku') ∧ ku'.Nodup ∧ ∀ y, y ∈ ku' ↔ (y ∈ ku ∧ y ≠ x) ∨ (u ∈ ks ∧ y ∈ ks ∧ y ≠ u)
  len : F'.length = F.length
structure Fok (ad : Nat → Nat → Prop) (F : Fi) : Prop where
  nd : ∀ (u : Nat) (ks : List Nat), F[u]? = some (some ks) → ks.Nodup
  sym : ∀ (u : Nat) (ks : List Nat) (y : Nat), F[u]? = some (some ks) → y ∈ ks → y ≠ u ∧ ∃ ky, F[y]? = some (some ky) ∧ u ∈ ky
  edge : ∀ (u : Nat) (ks : List Nat) (v : Nat), F[u]? = some (some ks) → ad u v → Alive F v → v ∈ ks
variable {ad : Nat → Nat → Prop} {F F' : Fi} {x : Nat} {ks : List Nat}
theorem Stp.back (h : Stp F F' x ks) {u : Nat} {ku' : List Nat} (hu : F'[u]? = some (some ku')) : u ≠ x ∧ ∃ ku, F[u]? = some (some ku) ∧ ku'.Nodup ∧ ∀ y, y ∈ ku' ↔ (y ∈ ku ∧ y ≠ x) ∨ (u ∈ ks ∧ y ∈ ks ∧ y ≠ u) := by
  have hux : u ≠ x := by rintro rfl; rw [h.gone] at hu; cases hu
  refine ⟨hux, ?_⟩
  cases hF : F[u]? with
  | none =>
    have h1 : F.length ≤ u := List.getElem?_eq_none_iff.1 hF
    rw [List.getElem?_eq_none (by rw [h.len]; exact h1)] at hu; cases hu
  | some o =>
    cases o with
    | none => rw [h.no u hF] at hu; cases hu
    | some ku =>
      obtain ⟨k2, h1, h2, h3⟩ := h.yes u ku hux hF
      rw [h1] at hu; cases hu
      exact ⟨ku, rfl, h2, h3⟩
theorem Stp.alive (h : Stp F F' x ks) (u : Nat) : Alive F' u ↔ Alive F u ∧ u ≠ x := by
  constructor
  · rintro ⟨k, hk⟩; obtain ⟨h1, ku, h2, _⟩ := h.back hk; exact ⟨⟨ku, h2⟩, h1⟩
  · rintro ⟨⟨k, hk⟩, hne⟩; obtain ⟨k2, h1, _⟩ := h.yes u k hne hk; exact ⟨k2, h1⟩
theorem Fok.step (hF : Fok ad F) (h : Stp F F' x ks) : Fok ad F' := by
  refine ⟨?_, ?_, ?_⟩
  · intro u ku hu; obtain ⟨_, _, _, h2, _⟩ := h.back hu; exact h2
  · intro u ku' y hu hy
    obtain ⟨hux, ku, hu0, _, hm⟩ := h.back hu
    rcases (hm y).1 hy with ⟨h1, h2⟩ | ⟨h1, h2, h3⟩
    · obtain ⟨h3, ky, h4, h5⟩ := hF.sym u ku y hu0 h1
      obtain ⟨k2, h6, _, h7⟩ := h.yes y ky h2 h4
      exact ⟨h3, k2, h6, (h7 u).2 (.inl ⟨h5, hux⟩)⟩
    · obtain ⟨h4, ky, h5, h6⟩ := hF.sym x ks y h.at_ h2
      obtain ⟨k2, h7, _, h8⟩ := h.yes y ky h4 h5
      exact ⟨h3, k2, h7, (h8 u).2 (.inr ⟨h2, h1, fun e => h3 e.symm⟩)⟩
  · intro u ku' v hu ha hv
    obtain ⟨hux, ku, hu0, _, hm⟩ := h.back hu
    have hv2 := (h.alive v).1 hv
    exact (hm v).2 (.inl ⟨hF.edge u ku v hu0 ha hv2.1, hv2.2⟩)
theorem ClF.snoc (hF : Fok ad F) (h : Stp F F' x ks) (n : List Nat) (hn : ∀ y, y ∈ n ↔ y ∈ ks) {near : List Nat} : ∀ {st : List St}, ClF F near st → ClF F' near (st ++ [(x, n)])
  | [], hc => by
    simp only [ClF, List.nil_append] at hc ⊢
    refine ⟨fun hx b hb hne => ?_, fun hx a ha b hb hab => ?_⟩
    · obtain ⟨k, h1, h2⟩ := hc x hx b hb (Ne.symm hne)
      rw [h.at_] at h1; cases h1; exact (hn b).2 h2
    · obtain ⟨k, h1, h2⟩ := hc a ha b hb hab
      have hax : a ≠ x := by rintro rfl; exact hx ha
      have hbx : b ≠ x := by rintro rfl; exact hx hb
      obtain ⟨k2, h3, _, h4⟩ := h.yes a k hax h1
      exact ⟨k2, h3, (h4 b).2 (.inl ⟨h2, hbx⟩)⟩
  | s :: st, hc => by
    simp only [ClF, List.cons_append] at hc ⊢
    exact ⟨hc.1, fun hs => (hc.2 hs).snoc hF h n hn⟩
theorem SokF.snoc (hF : Fok ad F) (h : Stp F F' x ks) (n : List Nat) (hn : ∀ y, y ∈ n ↔ y ∈ ks) (hnd : n.Nodup) : ∀ {st : List St}, SokF ad F st → SokF ad F' (st ++ [(x, n)])
  | [], _ => by
    simp only [SokF, List.nil_append, List.map_nil, List.not_mem_nil, false_or, not_false_eq_true, true_and, and_true]
    refine ⟨hnd, ?_, ?_, ?_, ?_⟩
    · rw [h.alive]; exact fun hx => hx.2 rfl
    · intro u hu
      obtain ⟨h1, k, h2, _⟩ := hF.sym x ks u h.at_ ((hn u).1 hu)
      exact (h.alive u).2 ⟨⟨k, h2⟩, h1⟩
    · intro u hu ha; exact (hn u).2 (hF.edge x ks u h.at_ ha ((h.alive u).1 hu).1)
    · intro a ha b hb hab
      have ha' := (hn a).1 ha
      obtain ⟨h1, k, h2, _⟩ := hF.sym x ks a h.at_ ha'
      obtain ⟨k2, h3, _, h4⟩ := h.yes a k h1 h2
      exact ⟨k2, h3, (h4 b).2 (.inr ⟨ha', (hn b).1 hb, Ne.symm hab⟩)⟩
  | s :: st, hc => by
    simp only [SokF, List.cons_append, List.map_append, List.map_cons, List.map_nil, List.mem_append, List.mem_singleton] at hc ⊢
    obtain ⟨h1, h2, h3, h4, h5, h6, h7⟩ := hc
    refine ⟨h1, ?_, ?_, ?_, ?_, h6.snoc hF h n hn, h7.snoc hF h n hn hnd⟩
    · rintro (hm | rfl)
      · exact h2 hm
      · exact h3 ⟨ks, h.at_⟩
    · rw [h.alive]; exact fun hx => h3 hx.1
    · intro u hu
      by_cases hux : u = x
      · exact .inl (.inr hux)
      · rcases h4 u hu with hm | ha
        · exact .inl (.inl hm)
        · exact .inr ((h.alive u).2 ⟨ha, hux⟩)
    · rintro u ((hm | rfl) | ha) hadj
      · exact h5 u (.inl hm) hadj
      · exact h5 _ (.inr ⟨ks, h.at_⟩) hadj
      · exact h5 u (.inr ((h.alive u).1 ha).1) hadj
theorem ClF.cl {near : List Nat} : ∀ {st : List St}, ClF F near st → Cl near st
  | [], _ => trivial
  | _ :: _, h => ⟨h.1, fun hs => (h.2 hs).cl⟩
theorem SokF.sok (hF : ∀ u, ¬ Alive F u) : ∀ {st : List St}, SokF ad F st → Sok ad st
  | [], _ => trivial
  | s :: st, h => by
    obtain ⟨h1, h2, h3, h4, h5, h6, h7⟩ := h
    exact ⟨h1, h2, fun u hu => (h4 u hu).resolve_right (hF u), fun u hu => h5 u (.inl hu), h6.cl, h7.sok hF⟩
/-- What the list of steps is known of, while it grows. -/
structure Sinv (ad : Nat → Nat → Prop) (n : Nat) (F : Fi) (st : List St) : Prop where
  fok : Fok ad F
  sok : SokF ad F st
  len : F.length = n
  all : ∀ u, u < n → Alive F u ∨ u ∈ st.map (·.1)
  lt : ∀ u ∈ st.map (·.1), u < n
  sorted : ∀ s ∈ st, s.2.Pairwise (· < ·)
  near : ∀ K : Nat → Prop, (∀ u v, ad u v → (K u ↔ K v)) → (∀ (u : Nat) (ks : List Nat) (y : Nat), F[u]? = some (some ks) → y ∈ ks → (K u ↔ K y)) ∧ ∀ s ∈ st, ∀ y ∈ s.2, (K s.1 ↔ K y)
theorem Sinv.next {n : Nat} {st : List St} (h : Sinv ad n F st) (hs : Stp F F' x ks) (l : List Nat) (hl : ∀ y, y ∈ l ↔ y ∈ ks) (hls : l.Pairwise (· < ·)) : Sinv ad n F' (st ++ [(x, l)]) := by
  have hx : x < n := by
    rw [← h.len]
    rcases Nat.lt_or_ge x F.length with h1 | h1
    · exact h1
    · have := hs.at_; rw [List.getElem?_eq_none h1] at this; cases this
  refine ⟨h.fok.step hs, h.sok.snoc h.fok hs l hl (hls.imp Nat.ne_of_lt), by rw [hs.len, h.len], ?_, ?_, ?_, ?_⟩
  · intro u hu
    by_cases hux : u = x
    · exact .inr (by simp [hux])
    · rcases h.all u hu with h1 | h1
      · exact .inl ((hs.alive u).2 ⟨h1, hux⟩)
      · exact .inr (by rw [List.map_append]; exact List.mem_append_left _ h1)
  · intro u hu
    rw [List.map_append, List.mem_append] at hu
    rcases hu with hu | hu
    · exact h.lt u hu
    · simp at hu; subst hu; exact hx
  · intro s hs
    rcases List.mem_append.1 hs with hs | hs
    · exact h.sorted s hs
    · simp at hs; subst hs; exact hls
  · intro K hK
    obtain ⟨h1, h2⟩ := h.near K hK
    refine ⟨?_, ?_⟩
    · intro u ku' y hu hy
      obtain ⟨hux, ku, hu0, _, hm⟩ := hs.back hu
      rcases (hm y).1 hy with ⟨h3, _⟩ | ⟨h3, h4, _⟩
      · exact h1 u ku y hu0 h3
      · exact (h1 x ks u hs.at_ h3).symm.trans (h1 x ks y hs.at_ h4)
    · intro s hs' y hy
      rcases List.mem_append.1 hs' with h3 | h3
      · exact h2 s h3 y hy
      · simp at h3; subst h3; exact h1 x ks y hs.at_ ((hl y).1 hy)
/-- Steps of all vertices. -/
structure Steps (ad : Nat → Nat → Prop) (n : Nat) (st : List St) : Prop where
  sok : Sok ad st
  all : ∀ u, u ∈ st.map (·.1) ↔ u < n
  sorted : ∀ s ∈ st, s.2.Pairwise (· < ·)
  near : ∀ K : Nat → Prop, (∀ u v, ad u v → (K u ↔ K v)) → ∀ s ∈ st, ∀ y ∈ s.2, (K s.1 ↔ K y)
theorem Sinv.steps {n : Nat} {st : List St} (h : Sinv ad n F st) (hF : ∀ u, ¬ Alive F u) : Steps ad n st :=
  ⟨h.sok.sok hF, fun u => ⟨h.lt u, fun hu => (h.all u hu).resolve_left (hF u)⟩, h.sorted, fun K hK => (h.near K hK).2⟩
theorem Cl.filter {near : List Nat} (p : Nat → Bool) (hn : ∀ u ∈ near, p u = true) : ∀ {st : List St}, Cl near st → Cl near (st.filter fun s => p s.1)
  | [], _ => trivial
  | s :: st, h => by
    rw [List.filter_cons]
    split
    · exact ⟨h.1, fun hs => (h.2 hs).filter p hn⟩
    · rename_i hp
      exact (h.2 fun hm => hp (hn _ hm)).filter p hn
theorem Sok.filter (p : Nat → Bool) : ∀ {st : List St}, Sok ad st → (∀ s ∈ st, p s.1 = true → ∀ u ∈ s.2, p u = true) → Sok ad (st.filter fun s => p s.1)
  | [], _, _ => trivial
  | s :: st, h, hp => by
    obtain ⟨h1, h2, h3, h4, h5, h6⟩ := h
    have ih := h6.filter p fun t ht => hp t (List.mem_cons_of_mem _ ht)
    rw [List.filter_cons]
    split
    · rename_i hs
      have hsub : ∀ u, u ∈ (st.filter fun s => p s.1).map (·.1) ↔ u ∈ st.map (·.1) ∧ p u = true := by
        intro u
        simp only [List.mem_map, List.mem_filter]
        constructor
        · rintro ⟨a, ⟨ha, hb⟩, rfl⟩; exact ⟨⟨a, ha, rfl⟩, hb⟩
        · rintro ⟨⟨a, ha, rfl⟩, hb⟩; exact ⟨a, ⟨ha, hb⟩, rfl⟩
      have hn := hp s (List.mem_cons_self ..) hs
      exact ⟨h1, fun hm => h2 ((hsub _).1 hm).1, fun u hu => (hsub u).2 ⟨h3 u hu, hn u hu⟩, fun u hu => h4 u ((hsub u).1 hu).1, h5.filter p hn, ih⟩
    · exact ih
/-! ### Tables -/
abbrev Tab := List Nat × List Nat
def tv (t : Tab) (s : Nat → Bool) : Nat := t.2.getD (encB t.1 s) 0
def sumT (ts : List Tab) (s : Nat → Bool) : Nat := (ts.map fun t => tv t s).sum
def setB (s : Nat → Bool) (v : Nat) (b : Bool) : Nat → Bool := fun w => if w = v then b else s w
def mineT (v : Nat) (ts : List Tab) : List Tab := ts.filter fun t => decide (v ∈ t.1)
def restT (v : Nat) (ts : List Tab) : List Tab := ts.filter fun t => !decide (v ∈ t.1)
theorem sumT_split (v : Nat) (ts : List Tab) (s : Nat → Bool) : sumT ts s = sumT (mineT v ts) s + sumT (restT v ts) s := by
  induction ts with
  | nil => rfl
  | cons t ts ih =>
    simp only [sumT, mineT, restT, List.filter_cons, List.map_cons, List.sum_cons] at ih ⊢
    by_cases h : v ∈ t.1 <;> simp [h] at ih ⊢ <;> omega
theorem sumT_append (a b : List Tab) (s : Nat → Bool) : sumT (a ++ b) s = sumT a s + sumT b s := by simp [sumT]
theorem tv_congr {t : Tab} {s r : Nat → Bool} (h : ∀ v ∈ t.1, s v = r v) : tv t s = tv t r := by unfold tv; rw [encB_congr h]
theorem sumT_congr {ts : List Tab} {s r : Nat → Bool} (h : ∀ t ∈ ts, ∀ v ∈ t.1, s v = r v) : sumT ts s = sumT ts r := by
  unfold sumT; congr 1; exact List.map_congr_left fun t ht => tv_congr (h t ht)
/-- A vertex is eliminated: the table that comes, and what it decides. -/
structure Elim (ad : Nat → Nat → Prop) (x : St) (ts : List Tab) (t : Tab) (inn : List Bool) : Prop where
  over : t.1 = x.2
  len : t.2.length = 2 ^ x.2.length
  ilen : inn.length = 2 ^ x.2.length
  yes : ∀ s : Nat → Bool, inn.getD (encB x.2 s) false = true ↔ (∀ u ∈ x.2, s u = true → ¬ ad x.1 u) ∧ sumT (mineT x.1 ts) (setB s x.1 false) < sumT (mineT x.1 ts) (setB s x.1 true) + 1
  best : ∀ s : Nat → Bool, tv t s = if inn.getD (encB x.2 s) false = true then sumT (mineT x.1 ts) (setB s x.1 true) + 1 else sumT (mineT x.1 ts) (setB s x.1 false)
theorem setB_self (s : Nat → Bool) (v : Nat) : setB s v (s v) = s := by funext w; unfold setB; split; rename_i h; rw [h]; rfl
def nB (b : Bool) : Nat := if b then 1 else 0
theorem Elim.upper {x : St} {ts : List Tab} {t : Tab} {inn : List Bool} (h : Elim ad x ts t inn) (J : Nat → Bool) (hJ : ∀ u v, J u = true → J v = true → ¬ ad u v) : sumT ts J + nB (J x.1) ≤ sumT (restT x.1 ts ++ [t]) J := by
  rw [sumT_append, sumT_split x.1 ts J]
  have h1 := h.best J
  have h2 := h.yes J
  have h3 : sumT [t] J = tv t J := by simp [sumT]
  have h4 : sumT (mineT x.1 ts) J = sumT (mineT x.1 ts) (setB J x.1 (J x.1)) := by rw [setB_self]
  rw [h3, h1]
  cases hj : J x.1 with
  | false =>
    rw [hj] at h4; simp only [nB, Bool.false_eq_true, if_false]
    by_cases hh : inn.getD (encB x.2 J) false = true
    · rw [if_pos hh]; have := (h2.1 hh).2; omega
    · rw [if_neg hh]; omega
  | true =>
    rw [hj] at h4; simp only [nB, if_true]
    have ha : ∀ u ∈ x.2, J u = true → ¬ ad x.1 u := fun u _ hu => hJ _ _ hj hu
    by_cases hh : inn.getD (encB x.2 J) false = true
    · rw [if_pos hh]; omega
    · rw [if_neg hh]
      have : ¬ sumT (mineT x.1 ts) (setB J x.1 false) < sumT (mineT x.1 ts) (setB J x.1 true) + 1 := fun hlt => hh (h2.2 ⟨ha, hlt⟩)
      omega
theorem Elim.down {x : St} {ts : List Tab} {t : Tab} {inn : List Bool} (h : Elim ad x ts t inn) (I : Nat → Bool) (hI : I x.1 = inn.getD (encB x.2 I) false) : sumT ts I + nB (I x.1) = sumT (restT x.1 ts ++ [t]) I := by
  rw [sumT_append, sumT_split x.1 ts I]
  have h1 := h.best I
  have h3 : sumT [t] I = tv t I := by simp [sumT]
  have h4 : sumT (mineT x.1 ts) I = sumT (mineT x.1 ts) (setB I x.1 (I x.1)) := by rw [setB_self]
  rw [h3, h1, ← hI]
  cases hj : I x.1 with
  | false => rw [hj] at h4; simp [nB]; omega
  | true => rw [hj] at h4; simp [nB]; omega
inductive Run (ad : Nat → Nat → Prop) : List St → List Tab → List (List Bool) → List Tab → Prop
  | nil (ts : List Tab) : Run ad [] ts [] ts
  | cons {x : St} {S : List St} {ts ts' : List Tab} {t : Tab} {inn : List Bool} {inns : List (List Bool)} : Elim ad x ts t inn → Run ad S (restT x.1 ts ++ [t]) inns ts' → Run ad (x :: S) ts (inn :: inns) ts'
theorem Run.snoc {S : List St} {ts ts' : List Tab} {inns : List (List Bool)} (h : Run ad S ts inns ts') {x : St} {t : Tab} {inn : List Bool} (he : Elim ad x ts' t inn) : Run ad (S ++ [x]) ts (inns ++ [inn]) (restT x.1 ts' ++ [t]) := by
  induction h with
  | nil ts => exact .cons he (.nil _)
  | cons h1 _ ih => exact .cons h1 (ih he)
theorem Run.len {S : List St} {ts ts' : List Tab} {inns : List (List Bool)} (h : Run ad S ts inns ts') : inns.length = S.length := by
  induction h with
  | nil => rfl
  | cons _ _ ih => simp [ih]
def cntB (J : Nat → Bool) : List St → Nat
  | [] => 0
  | x :: S => nB (J x.1) + cntB J S
theorem Run.upper {S : List St} {ts ts' : List Tab} {inns : List (List Bool)} (h : Run ad S ts inns ts') (J : Nat → Bool) (hJ : ∀ u v, J u = true → J v = true → ¬ ad u v) : sumT ts J + cntB J S ≤ sumT ts' J := by
  induction h with
  | nil => simp [cntB]
  | cons h1 _ ih => have := h1.upper J hJ; simp only [cntB]; omega
/-- A set that holds what each vertex decides. -/
def Dec (I : Nat → Bool) : List St → List (List Bool) → Prop
  | x :: S, inn :: inns => I x.1 = inn.getD (encB x.2 I) false ∧ Dec I S inns
  | _, _ => True
theorem Run.down {S : List St} {ts ts' : List Tab} {inns : List (List Bool)} (h : Run ad S ts inns ts') (I : Nat → Bool) (hI : Dec I S inns) : sumT ts I + cntB I S = sumT ts' I := by
  induction h with
  | nil => simp [cntB]
  | cons h1 _ ih => have := h1.down I hI.1; have := ih hI.2; simp only [cntB]; omega
theorem Run.indep {S : List St} {ts ts' : List Tab} {inns : List (List Bool)} (h : Run ad S ts inns ts') (I : Nat → Bool) (hI : Dec I S inns) (hs : Sok ad S) (hsym : ∀ u v, ad u v → ad v u) (hirr : ∀ u, ¬ ad u u) :
    ∀ u ∈ S.map (·.1), ∀ v ∈ S.map (·.1), I u = true → I v = true → ¬ ad u v := by
  induction h with
  | nil => intro u hu; simp at hu
  | @cons x S ts ts' t inn inns h1 _ ih =>
    obtain ⟨_, s2, s3, s4, _, s6⟩ := hs
    have key : ∀ v ∈ S.map (·.1), I x.1 = true → I v = true → ¬ ad x.1 v := by
      intro v hv hx hIv ha
      have := ((h1.yes I).1 (by rw [← hI.1]; exact hx)).1 v (s4 v hv ha) hIv
      exact this ha
    intro u hu v hv hIu hIv
    simp only [List.map_cons, List.mem_cons] at hu hv
    rcases hu with rfl | hu <;> rcases hv with rfl | hv
    · exact hirr _
    · exact key v hv hIu hIv
    · exact fun ha => key u hu hIv hIu (hsym _ _ ha)
    · exact ih hI.2 s6 u hu v hv hIu hIv
/-- The tables speak of vertices that are to come. -/
structure TOk (ts : List Tab) (post : List St) : Prop where
  len : ∀ t ∈ ts, t.2.length = 2 ^ t.1.length
  nd : ∀ t ∈ ts, t.1.Nodup
  sub : ∀ t ∈ ts, ∀ u ∈ t.1, u ∈ post.map (·.1)
  cl : ∀ t ∈ ts, Cl t.1 post
theorem TOk.next {x : St} {post : List St} {ts : List Tab} (h : TOk ts (x :: post)) (hs : Sok ad (x :: post)) {t : Tab} {inn : List Bool} (he : Elim ad x ts t inn) : TOk (restT x.1 ts ++ [t]) post := by
  have hm : ∀ t' ∈ restT x.1 ts ++ [t], (t' ∈ ts ∧ x.1 ∉ t'.1) ∨ t' = t := by
    intro t' ht
    rcases List.mem_append.1 ht with h1 | h1
    · simp [restT] at h1; exact .inl h1
    · simp at h1; exact .inr h1
  obtain ⟨s1, s2, s3, s4, s5, s6⟩ := hs
  refine ⟨fun t' ht => ?_, fun t' ht => ?_, fun t' ht => ?_, fun t' ht => ?_⟩ <;> rcases hm t' ht with ⟨h1, h2⟩ | rfl
  · exact h.len t' h1
  · rw [he.len, he.over]
  · exact h.nd t' h1
  · rw [he.over]; exact s1
  · intro u hu
    have := h.sub t' h1 u hu
    simp only [List.map_cons, List.mem_cons] at this
    rcases this with rfl | h3
    · exact absurd hu h2
    · exact h3
  · rw [he.over]; exact s3
  · exact (h.cl t' h1).2 h2
  · rw [he.over]; exact s5
theorem Run.tok {S : List St} {ts ts' : List Tab} {inns : List (List Bool)} (h : Run ad S ts inns ts') : ∀ {post : List St}, TOk ts (S ++ post) → Sok ad (S ++ post) → TOk ts' post ∧ Sok ad post := by
  induction h with
  | nil => intro post h1 h2; exact ⟨h1, h2⟩
  | cons h1 _ ih => intro post h2 h3; exact ih (h2.next h3 h1) h3.2.2.2.2.2
theorem TOk.mine {x : St} {post : List St} {ts : List Tab} (h : TOk ts (x :: post)) {t : Tab} (ht : t ∈ mineT x.1 ts) : ∀ u ∈ t.1, u = x.1 ∨ u ∈ x.2 := by
  simp [mineT] at ht
  intro u hu
  by_cases hux : u = x.1
  · exact .inl hux
  · exact .inr ((h.cl t ht.1).1 ht.2 u hu hux)
/-- The set that is told is a greatest one. -/
theorem Run.best {S : List St} {ts' : List Tab} {inns : List (List Bool)} (h : Run ad S [] inns ts') (hs : Sok ad S) (I : Nat → Bool) (hI : Dec I S inns) (J : Nat → Bool) (hJ : ∀ u v, J u = true → J v = true → ¬ ad u v) : cntB J S ≤ cntB I S := by
  have h1 := h.upper J hJ
  have h2 := h.down I hI
  have h3 : TOk ts' [] := (h.tok (post := []) ⟨by simp, by simp, by simp, by simp⟩ (by rw [List.append_nil]; exact hs)).1
  have h4 : sumT ts' J = sumT ts' I := sumT_congr fun t ht v hv => by have := h3.sub t ht v hv; simp at this
  have h5 : ∀ s, sumT [] s = 0 := fun s => rfl
  rw [h5] at h1 h2; omega
end
end Go.Proofs.YtdmodppoellbkaaGreat
namespace Go.Proofs.YtdmodppoellbkaaGreat
/-! ### Greatest independent sets -/
/-- A greatest one of the independent sets of which 'p' holds. -/
structure Best (ad : Nat → Nat → Prop) (p : Nat → Prop) (os : List Nat) : Prop where
  nd : os.Nodup
  mem : ∀ v ∈ os, p v
  ind : ∀ u ∈ os, ∀ v ∈ os, ¬ ad u v
  max : ∀ J : List Nat, J.Nodup → (∀ v ∈ J, p v) → (∀ u ∈ J, ∀ v ∈ J, ¬ ad u v) → J.length ≤ os.length
theorem Best.perm {ad : Nat → Nat → Prop} {p : Nat → Prop} {os os' : List Nat} (h : Best ad p os) (hp : os'.Perm os) : Best ad p os' :=
  ⟨hp.nodup_iff.2 h.nd, fun v hv => h.mem v (hp.mem_iff.1 hv), fun u hu v hv => h.ind u (hp.mem_iff.1 hu) v (hp.mem_iff.1 hv), fun J h1 h2 h3 => by rw [hp.length_eq]; exact h.max J h1 h2 h3⟩
theorem Best.congr {ad ad' : Nat → Nat → Prop} {p p' : Nat → Prop} {os : List Nat} (h : Best ad p os) (hp : ∀ v, p v ↔ p' v) (ha : ∀ u v, p u → p v → (ad u v ↔ ad' u v)) : Best ad' p' os :=
  ⟨h.nd, fun v hv => (hp v).1 (h.mem v hv), fun u hu v hv hh => h.ind u hu v hv ((ha u v (h.mem u hu) (h.mem v hv)).2 hh),
    fun J h1 h2 h3 => h.max J h1 (fun v hv => (hp v).2 (h2 v hv)) (fun u hu v hv hh => h3 u hu v hv ((ha u v ((hp u).2 (h2 u hu)) ((hp v).2 (h2 v hv))).1 hh))⟩
theorem Best.len {ad : Nat → Nat → Prop} {p : Nat → Prop} {os os' : List Nat} (h : Best ad p os) (h' : Best ad p os') : os.length = os'.length :=
  Nat.le_antisymm (h'.max os h.nd h.mem h.ind) (h.max os' h'.nd h'.mem h'.ind)
inductive Bests (ad : Nat → Nat → Prop) : List (List Nat) → List (List Nat) → Prop
  | nil : Bests ad [] []
  | cons {c os : List Nat} {cs oss : List (List Nat)} : Best ad (· ∈ c) os → Bests ad cs oss → Bests ad (c :: cs) (os :: oss)
theorem Bests.snoc {ad : Nat → Nat → Prop} {cs oss : List (List Nat)} {c os : List Nat} (h : Bests ad cs oss) (hb : Best ad (· ∈ c) os) : Bests ad (cs ++ [c]) (oss ++ [os]) := by
  induction h with
  | nil => exact .cons hb .nil
  | cons h1 _ ih => exact .cons h1 ih
theorem filter_len (p : Nat → Bool) (J : List Nat) : (J.filter p).length + (J.filter fun x => !p x).length = J.length := by
  induction J with
  | nil => rfl
  | cons x J ih => cases h : p x <;> simp [List.filter_cons, h] <;> omega
theorem Bests.concat {ad : Nat → Nat → Prop} {cs oss : List (List Nat)} (h : Bests ad cs oss) (hd : cs.Pairwise fun c d => ∀ x ∈ c, x ∉ d) (hs : ∀ u v, ad u v → ad v u)
    (hn : cs.Pairwise fun c d => ∀ u ∈ c, ∀ v ∈ d, ¬ ad u v) : Best ad (fun v => ∃ c ∈ cs, v ∈ c) oss.flatten := by
  induction h with
  | nil => exact ⟨by simp, by simp, by simp, fun J _ h2 _ => by
      cases J with
      | nil => simp
      | cons x J => obtain ⟨c, hc, _⟩ := h2 x (by simp); cases hc⟩
  | @cons c os cs oss h1 _ ih =>
    rw [List.pairwise_cons] at hd hn
    have ih := ih hd.2 hn.2
    rw [List.flatten_cons]
    refine ⟨?_, ?_, ?_, ?_⟩
    · rw [List.nodup_append]
      refine ⟨h1.nd, ih.nd, fun a ha b hb hab => ?_⟩
      subst hab
      obtain ⟨d, hdc, had⟩ := ih.mem a hb
      exact hd.1 d hdc a (h1.mem a ha) had
    · intro v hv
      rcases List.mem_append.1 hv with h2 | h2
      · exact ⟨c, by simp, h1.mem v h2⟩
      · obtain ⟨d, hdc, had⟩ := ih.mem v h2; exact ⟨d, by simp [hdc], had⟩
    · intro u hu v hv ha
      rcases List.mem_append.1 hu with h2 | h2 <;> rcases List.mem_append.1 hv with h3 | h3
      · exact h1.ind u h2 v h3 ha
      · obtain ⟨d, hdc, had⟩ := ih.mem v h3; exact hn.1 d hdc u (h1.mem u h2) v had ha
      · obtain ⟨d, hdc, had⟩ := ih.mem u h2; exact hn.1 d hdc v (h1.mem v h3) u had (hs _ _ ha)
      · exact ih.ind u h2 v h3 ha
    · intro J hJ hm hi
      have hl := filter_len (fun x => decide (x ∈ c)) J
      have m1 := h1.max (J.filter fun x => decide (x ∈ c)) (hJ.sublist List.filter_sublist) (fun v hv => by simpa using (List.mem_filter.1 hv).2) (fun u hu v hv => hi u (List.mem_filter.1 hu).1 v (List.mem_filter.1 hv).1)
      have m2 := ih.max (J.filter fun x => !decide (x ∈ c)) (hJ.sublist List.filter_sublist) (fun v hv => by
        obtain ⟨h2, h3⟩ := List.mem_filter.1 hv
        obtain ⟨d, hdc, had⟩ := hm v h2
        rcases List.mem_cons.1 hdc with rfl | h4
        · simp [had] at h3
        · exact ⟨d, h4, had⟩) (fun u hu v hv => hi u (List.mem_filter.1 hu).1 v (List.mem_filter.1 hv).1)
      rw [List.length_append]; omega
/-! ### What the elimination tells -/
theorem Sok.nodup {ad : Nat → Nat → Prop} : ∀ {S : List St}, Sok ad S → (S.map (·.1)).Nodup
  | [], _ => by simp
  | x :: S, h => by
    obtain ⟨_, h2, _, _, _, h6⟩ := h
    rw [List.map_cons, List.nodup_cons]; exact ⟨h2, h6.nodup⟩
theorem cntB_eq (J : Nat → Bool) (S : List St) : cntB J S = ((S.map (·.1)).filter J).length := by
  induction S with
  | nil => rfl
  | cons x S ih => simp only [cntB, List.map_cons, List.filter_cons, ih]; cases h : J x.1 <;> simp [nB]; omega
theorem nodup_le : ∀ (l m : List Nat), l.Nodup → (∀ x ∈ l, x ∈ m) → l.length ≤ m.length
  | [], _, _, _ => by simp
  | x :: l, m, hn, hs => by
    rw [List.nodup_cons] at hn
    have hx := hs x (by simp)
    have := nodup_le l (m.erase x) hn.2 (fun y hy => by
      have hyx : y ≠ x := by rintro rfl; exact hn.1 hy
      exact (List.mem_erase_of_ne hyx).2 (hs y (by simp [hy])))
    have hp := List.length_erase_of_mem hx
    have := List.length_pos_of_mem hx
    simp only [List.length_cons]; omega
/-- The vertices that are in, as the program tells them: from behind. -/
theorem Run.told {ad : Nat → Nat → Prop} {n : Nat} {st : List St} {p : Nat → Bool} (h : Steps ad n st) (hp : ∀ u v, ad u v → p u = p v) (hsym : ∀ u v, ad u v → ad v u) (hirr : ∀ u, ¬ ad u u)
    {inns : List (List Bool)} {ts' : List Tab} (hr : Run ad (st.filter fun s => p s.1) [] inns ts') (I : Nat → Bool) (hI : Dec I (st.filter fun s => p s.1) inns) :
    Best ad (fun v => v < n ∧ p v = true) (((st.filter fun s => p s.1).map (·.1)).filter I) := by
  have hc : ∀ s ∈ st, p s.1 = true → ∀ u ∈ s.2, p u = true := fun s hs hps u hu => (h.near (fun v => p v = true) (fun u v ha => by rw [hp u v ha]) s hs u hu).1 hps
  have hs := h.sok.filter p hc
  have hm : ∀ v, v ∈ (st.filter fun s => p s.1).map (·.1) ↔ v < n ∧ p v = true := by
    intro v
    rw [← h.all v]
    simp only [List.mem_map, List.mem_filter]
    constructor
    · rintro ⟨a, ⟨ha, hb⟩, rfl⟩; exact ⟨⟨a, ha, rfl⟩, hb⟩
    · rintro ⟨⟨a, ha, rfl⟩, hb⟩; exact ⟨a, ⟨ha, hb⟩, rfl⟩
  refine ⟨hs.nodup.sublist List.filter_sublist, fun v hv => (hm v).1 (List.mem_filter.1 hv).1, fun u hu v hv => ?_, fun J hJ hJm hJi => ?_⟩
  · obtain ⟨h1, h2⟩ := List.mem_filter.1 hu
    obtain ⟨h3, h4⟩ := List.mem_filter.1 hv
    exact hr.indep I hI hs hsym hirr u h1 v h3 h2 h4
  · rw [← cntB_eq]
    refine Nat.le_trans ?_ (hr.best hs I hI (fun v => decide (v ∈ J)) (fun u v hu hv => hJi u (by simpa using hu) v (by simpa using hv)))
    rw [cntB_eq]
    exact nodup_le J _ hJ (fun x hx => List.mem_filter.2 ⟨(hm x).2 (hJm x hx), by simpa using hx⟩)
/-! ### Pieces by numbers of their own -/
def inC (p : List Nat) (e : NE) : Bool := decide (e.1 ∈ p) && decide (e.2.1 ∈ p)
def renE (p : List Nat) (E : List NE) : List NE := (E.filter (inC p)).map fun e => (p.idxOf e.1, p.idxOf e.2.1, e.2.2)
theorem idxOf_mono {p : List Nat} (hp : p.Pairwise (· < ·)) {a b : Nat} (ha : a ∈ p) (hb : b ∈ p) (h : a < b) : p.idxOf a < p.idxOf b := by
  have h1 := List.idxOf_lt_length_of_mem ha
  have h2 := List.idxOf_lt_length_of_mem hb
  have e1 := List.getElem_idxOf h1
  have e2 := List.getElem_idxOf h2
  rcases Nat.lt_trichotomy (p.idxOf a) (p.idxOf b) with h3 | h3 | h3
  · exact h3
  · simp only [h3] at e1; omega
  · have := List.pairwise_iff_getElem.1 hp _ _ h2 h1 h3; omega
theorem renE_ok {n : Nat} {E : List NE} (hg : GOk n E) {p : List Nat} (hp : p.Pairwise (· < ·)) (hl : p.length ≤ 64) : GOk p.length (renE p E) := by
  refine ⟨hl, ?_, ?_, ?_⟩
  · rw [renE, List.length_map]; exact Nat.le_trans (List.length_filter_le _ _) hg.hm
  · intro e he
    obtain ⟨a, ha, rfl⟩ := List.mem_map.1 he
    obtain ⟨h1, h2⟩ := List.mem_filter.1 ha
    simp only [inC, Bool.and_eq_true, decide_eq_true_eq] at h2
    have := hg.he a h1
    exact ⟨idxOf_mono hp h2.1 h2.2 this.1, List.idxOf_lt_length_of_mem h2.2, this.2.2⟩
  · rw [renE, List.pairwise_map]
    refine (hg.hs.filter _).imp_of_mem ?_
    intro a b ha hb hab
    have h2 := (List.mem_filter.1 ha).2
    have h3 := (List.mem_filter.1 hb).2
    simp only [inC, Bool.and_eq_true, decide_eq_true_eq] at h2 h3
    rcases hab with h | ⟨h, h'⟩
    · exact .inl (idxOf_mono hp h2.1 h3.1 h)
    · exact .inr ⟨congrArg (fun x => p.idxOf x) h, idxOf_mono hp h2.2 h3.2 h'⟩
theorem idxOf_get {p : List Nat} (hn : p.Nodup) {i : Nat} (h : i < p.length) : p.idxOf p[i] = i := by
  have h1 := List.idxOf_lt_length_of_mem (List.getElem_mem h)
  have h2 := List.getElem_idxOf h1
  exact (List.getElem_inj hn).1 h2
theorem renE_adj {E : List NE} {p : List Nat} (hp : p.Pairwise (· < ·)) {i j : Nat} (hi : i < p.length) (hj : j < p.length) : adj (renE p E) i j ↔ adj E p[i] p[j] := by
  have hn : p.Nodup := hp.imp Nat.ne_of_lt
  constructor
  · rintro ⟨e, he, h⟩
    obtain ⟨a, ha, rfl⟩ := List.mem_map.1 he
    obtain ⟨h1, h2⟩ := List.mem_filter.1 ha
    simp only [inC, Bool.and_eq_true, decide_eq_true_eq] at h2
    refine ⟨a, h1, ?_⟩
    rcases h with ⟨rfl, rfl⟩ | ⟨rfl, rfl⟩
    · exact .inl ⟨(List.getElem_idxOf _).symm, (List.getElem_idxOf _).symm⟩
    · exact .inr ⟨(List.getElem_idxOf _).symm, (List.getElem_idxOf _).symm⟩
  · rintro ⟨e, he, h⟩
    have hin : inC p e = true := by
      simp only [inC, Bool.and_eq_true, decide_eq_true_eq]
      rcases h with ⟨h1, h2⟩ | ⟨h1, h2⟩ <;> rw [h1, h2] <;> exact ⟨List.getElem_mem _, List.getElem_mem _⟩
    refine ⟨_, List.mem_map.2 ⟨e, List.mem_filter.2 ⟨he, hin⟩, rfl⟩, ?_⟩
    rcases h with ⟨h1, h2⟩ | ⟨h1, h2⟩
    · exact .inl ⟨by show p.idxOf e.1 = i; rw [h1]; exact idxOf_get hn hi, by show p.idxOf e.2.1 = j; rw [h2]; exact idxOf_get hn hj⟩
    · exact .inr ⟨by show p.idxOf e.1 = j; rw [h1]; exact idxOf_get hn hj, by show p.idxOf e.2.1 = i; rw [h2]; exact idxOf_get hn hi⟩
theorem Best.ren {E : List NE} {p : List Nat} (hp : p.Pairwise (· < ·)) {is : List Nat} (h : Best (adj (renE p E)) (· < p.length) is) : Best (adj E) (· ∈ p) (is.map fun i => p.getD i 0) := by
  have hn : p.Nodup := hp.imp Nat.ne_of_lt
  have hget : ∀ i (hi : i < p.length), p.getD i 0 = p[i] := fun i hi => by simp [List.getD_eq_getElem?_getD, hi]
  refine ⟨?_, ?_, ?_, ?_⟩
  · rw [List.Nodup, List.pairwise_map]
    refine h.nd.imp_of_mem ?_
    intro a b ha hb hab heq
    have h1 := h.mem a ha
    have h2 := h.mem b hb
    rw [hget a h1, hget b h2] at heq
    exact hab ((List.getElem_inj hn).1 heq)
  · intro v hv
    obtain ⟨i, hi, rfl⟩ := List.mem_map.1 hv
    rw [hget i (h.mem i hi)]; exact List.getElem_mem _
  · intro u hu v hv ha
    obtain ⟨i, hi, rfl⟩ := List.mem_map.1 hu
    obtain ⟨j, hj, rfl⟩ := List.mem_map.1 hv
    rw [hget i (h.mem i hi), hget j (h.mem j hj)] at ha
    exact h.ind i hi j hj ((renE_adj hp (h.mem i hi) (h.mem j hj)).2 ha)
  · intro J hJ hm hi
    have := h.max (J.map fun v => p.idxOf v) (by
      rw [List.Nodup, List.pairwise_map]
      refine hJ.imp_of_mem ?_
      intro a b ha hb hab heq
      have e1 := List.getElem_idxOf (List.idxOf_lt_length_of_mem (hm a ha))
      have e2 := List.getElem_idxOf (List.idxOf_lt_length_of_mem (hm b hb))
      simp only [heq] at e1
      exact hab (e1.symm.trans e2)) (fun v hv => by
      obtain ⟨a, ha, rfl⟩ := List.mem_map.1 hv
      exact List.idxOf_lt_length_of_mem (hm a ha)) (fun u hu v hv ha => by
      obtain ⟨a, hj, rfl⟩ := List.mem_map.1 hu
      obtain ⟨b, hk, rfl⟩ := List.mem_map.1 hv
      have h1 := List.idxOf_lt_length_of_mem (hm a hj)
      have h2 := List.idxOf_lt_length_of_mem (hm b hk)
      have := (renE_adj hp h1 h2).1 ha
      rw [List.getElem_idxOf, List.getElem_idxOf] at this
      exact hi a hj b hk this)
    simpa using this
/-! ### Components -/
theorem adj_only {E : List NE} {keep : List Bool} {u v : Nat} : adj (onlyE E keep) u v ↔ adj E u v ∧ keep.getD u false = true ∧ keep.getD v false = true := by
  constructor
  · rintro ⟨e, he, h⟩
    obtain ⟨h1, h2⟩ := List.mem_filter.1 he
    simp only [eOf, Bool.and_eq_true] at h2
    refine ⟨⟨e, h1, h⟩, ?_⟩
    rcases h with ⟨rfl, rfl⟩ | ⟨rfl, rfl⟩
    · exact h2
    · exact ⟨h2.2, h2.1⟩
  · rintro ⟨⟨e, he, h⟩, hu, hv⟩
    refine ⟨e, List.mem_filter.2 ⟨he, ?_⟩, h⟩
    simp only [eOf, Bool.and_eq_true]
    rcases h with ⟨rfl, rfl⟩ | ⟨rfl, rfl⟩
    · exact ⟨hu, hv⟩
    · exact ⟨hv, hu⟩
theorem IsComp.adj {E : List NE} {c : List Nat} (h : IsComp E c) {u v : Nat} (hu : u ∈ c) (ha : adj E u v) : v ∈ c := by
  obtain ⟨_, r, _, hr⟩ := h
  exact (hr v).2 (((hr u).1 hu).step ha)
theorem Comps.apart {n : Nat} {E : List NE} {cs : List (List Nat)} (h : Comps n E cs) : cs.Pairwise fun c d => ∀ u ∈ c, ∀ v ∈ d, ¬ adj E u v := by
  refine h.d.imp_of_mem ?_
  intro c d hc _ hcd u hu v hv ha
  exact hcd v ((h.c c hc).adj hu ha) hv
/-- All the pieces together, of a graph as it is. -/
theorem Comps.best {n : Nat} {E : List NE} {cs oss : List (List Nat)} (h : Comps n E cs) (hb : Bests (adj E) cs oss) : Best (adj E) (· < n) oss.flatten :=
  (hb.concat h.d (fun _ _ ha => ha.symm) h.apart).congr (fun v => ⟨fun ⟨c, hc, hv⟩ => h.lt c hc v hv, fun hv => h.all v hv⟩) (fun _ _ _ _ => Iff.rfl)
theorem keptC_all {n : Nat} {E : List NE} {keep : List Bool} {cs : List (List Nat)} (h : Comps n (onlyE E keep) cs) {c : List Nat} (hc : c ∈ cs) : keptC keep c = true ↔ ∀ v ∈ c, keep.getD v false = true := by
  obtain ⟨hs, r, hr, hm⟩ := h.c c hc
  cases c with
  | nil => cases hr
  | cons a c =>
    have key : ∀ x y, Conn (onlyE E keep) x y → (keep.getD x false = true ↔ keep.getD y false = true) := by
      intro x y hxy
      induction hxy with
      | refl => exact Iff.rfl
      | step _ ha ih => have := (adj_only.1 ha).2; rw [ih]; exact ⟨fun _ => this.2, fun _ => this.1⟩
    have ha := (hm a).1 (by simp)
    simp only [keptC, List.headD_cons]
    constructor
    · intro hk v hv
      exact (key r v ((hm v).1 hv)).1 ((key r a ha).2 hk)
    · intro hk; exact hk a (by simp)
/-- All the pieces of what a shift keeps. -/
theorem Comps.best_kept {n : Nat} {E : List NE} {keep : List Bool} {cs oss : List (List Nat)} (h : Comps n (onlyE E keep) cs) (hb : Bests (adj E) (cs.filter (keptC keep)) oss) :
    Best (adj E) (fun v => v < n ∧ keep.getD v false = true) oss.flatten := by
  have hk : ∀ c ∈ cs.filter (keptC keep), c ∈ cs ∧ ∀ v ∈ c, keep.getD v false = true := fun c hc => by
    obtain ⟨h1, h2⟩ := List.mem_filter.1 hc
    exact ⟨h1, (keptC_all h h1).1 h2⟩
  refine (hb.concat (h.d.filter _) (fun _ _ ha => ha.symm) ?_).congr (fun v => ⟨fun ⟨c, hc, hv⟩ => ⟨h.lt c (hk c hc).1 v hv, (hk c hc).2 v hv⟩, fun hv => ?_⟩) (fun _ _ _ _ => Iff.rfl)
  · refine (h.apart.filter (keptC keep)).imp_of_mem ?_
    intro c d hc hd hcd u hu v hv ha
    exact hcd u hu v hv (adj_only.2 ⟨ha, (hk c hc).2 u hu, (hk d hd).2 v hv⟩)
  · obtain ⟨c, hc, hvc⟩ := h.all v hv.1
    refine ⟨c, List.mem_filter.2 ⟨hc, (keptC_all h hc).2 fun x hx => ?_⟩, hvc⟩
    obtain ⟨_, r, _, hm⟩ := h.c c hc
    have key : ∀ x y, Conn (onlyE E keep) x y → (keep.getD x false = true ↔ keep.getD y false = true) := by
      intro x y hxy
      induction hxy with
      | refl => exact Iff.rfl
      | step _ ha ih => have := (adj_only.1 ha).2; rw [ih]; exact ⟨fun _ => this.2, fun _ => this.1⟩
    exact (key r x ((hm x).1 hx)).1 ((key r v ((hm v).1 hvc)).2 hv.2)
/-! ### Pigeons: a vertex is dropped by one shift alone -/
def sumR (f : Nat → Nat) : Nat → Nat
  | 0 => 0
  | m + 1 => sumR f m + f m
theorem sumR_le {f g : Nat → Nat} : ∀ {m : Nat}, (∀ s, s < m → f s ≤ g s) → sumR f m ≤ sumR g m
  | 0, _ => Nat.le_refl _
  | m + 1, h => by have := sumR_le (m := m) (fun s hs => h s (by omega)); have := h m (by omega); simp only [sumR]; omega
theorem sumR_add (f g : Nat → Nat) : ∀ m, sumR (fun s => f s + g s) m = sumR f m + sumR g m
  | 0 => rfl
  | m + 1 => by simp only [sumR, sumR_add f g m]; omega
theorem sumR_const (c : Nat) : ∀ m, sumR (fun _ => c) m = m * c
  | 0 => by simp [sumR]
  | m + 1 => by simp only [sumR, sumR_const c m]; rw [Nat.add_mul]; omega
theorem kept_iff {k s x : Nat} (hs : s ≤ k) : keptB k s x = true ↔ s ≠ x % (k + 1) := by
  unfold keptB
  rw [decide_eq_true_eq]
  have h1 : x = (k + 1) * (x / (k + 1)) + x % (k + 1) := (Nat.div_add_mod x (k + 1)).symm
  have h2 : x % (k + 1) < k + 1 := Nat.mod_lt _ (by omega)
  generalize x % (k + 1) = r at h1 h2 ⊢
  generalize x / (k + 1) = q at h1
  have key : (x + k + 1 - s) % (k + 1) = (r + (k + 1) - s) % (k + 1) := by
    have : x + k + 1 - s = (r + (k + 1) - s) + (k + 1) * q := by omega
    rw [this, Nat.add_mul_mod_self_left]
  rw [key]
  rcases Nat.lt_trichotomy s r with h | h | h
  · have : r + (k + 1) - s = (r - s) + (k + 1) := by omega
    rw [this, Nat.add_mod_right, Nat.mod_eq_of_lt (by omega)]; omega
  · subst h
    have : s + (k + 1) - s = k + 1 := by omega
    rw [this]; simp
  · rw [Nat.mod_eq_of_lt (by omega)]; omega
theorem sumR_one (r : Nat) : ∀ m, sumR (fun s => if s ≠ r then 1 else 0) m + (if r < m then 1 else 0) = m
  | 0 => by simp [sumR]
  | m + 1 => by
    have := sumR_one r m
    simp only [sumR]
    rcases Nat.lt_trichotomy r m with h | h | h
    · rw [if_pos h] at this; rw [if_pos (by omega : m ≠ r), if_pos (by omega)]; omega
    · subst h; simp at this ⊢; omega
    · rw [if_neg (by omega)] at this; rw [if_pos (by omega : m ≠ r), if_neg (by omega)]; omega
theorem kept_sum (lev : Nat → Nat) (k : Nat) (J : List Nat) : sumR (fun s => (J.filter fun v => keptB k s (lev v)).length) (k + 1) = k * J.length := by
  induction J with
  | nil => simp only [List.filter_nil, List.length_nil]; rw [sumR_const]; simp
  | cons v J ih =>
    have h1 : ∀ s, s < k + 1 → ((v :: J).filter fun v => keptB k s (lev v)).length = (if s ≠ lev v % (k + 1) then 1 else 0) + (J.filter fun v => keptB k s (lev v)).length := by
      intro s hs
      have := kept_iff (x := lev v) (show s ≤ k by omega)
      rw [List.filter_cons]
      by_cases hh : keptB k s (lev v) = true
      · rw [if_pos hh, if_pos (this.1 hh)]; simp; omega
      · rw [if_neg hh, if_neg (fun h => hh (this.2 h))]; simp
    have h2 : sumR (fun s => ((v :: J).filter fun v => keptB k s (lev v)).length) (k + 1) = sumR (fun s => (if s ≠ lev v % (k + 1) then 1 else 0) + (J.filter fun v => keptB k s (lev v)).length) (k + 1) :=
      Nat.le_antisymm (sumR_le fun s hs => Nat.le_of_eq (h1 s hs)) (sumR_le fun s hs => Nat.le_of_eq (h1 s hs).symm)
    have h3 := sumR_one (lev v % (k + 1)) (k + 1)
    rw [if_pos (Nat.mod_lt _ (by omega))] at h3
    rw [h2, sumR_add, ih, List.length_cons, Nat.mul_add]; omega
/-- At least k of k + 1 parts. -/
theorem pigeon {ad : Nat → Nat → Prop} {n k L : Nat} (lev : Nat → Nat) (h : ∀ s, s ≤ k → ∀ os, Best ad (fun v => v < n ∧ keptB k s (lev v) = true) os → os.length ≤ L)
    (hex : ∀ s, s ≤ k → ∃ os, Best ad (fun v => v < n ∧ keptB k s (lev v) = true) os) (J : List Nat) (hJ : J.Nodup) (hm : ∀ v ∈ J, v < n) (hi : ∀ u ∈ J, ∀ v ∈ J, ¬ ad u v) : k * J.length ≤ (k + 1) * L := by
  rw [← kept_sum lev k J, ← sumR_const L (k + 1)]
  refine sumR_le fun s hs => ?_
  obtain ⟨os, hos⟩ := hex s (by omega)
  refine Nat.le_trans (hos.max _ (hJ.sublist List.filter_sublist) (fun v hv => ?_) (fun u hu v hv => hi u (List.mem_filter.1 hu).1 v (List.mem_filter.1 hv).1)) (h s (by omega) os hos)
  obtain ⟨h1, h2⟩ := List.mem_filter.1 hv
  exact ⟨hm v h1, h2⟩
end Go.Proofs.YtdmodppoellbkaaGreat
namespace Go.Proofs.YtdmodppoellbkaaGreat
/-! ### Round and round: the orbits of a turning -/
section
variable {α : Type} [DecidableEq α]
def goO (nx : α → α) (d : α) : α → Nat → List α
  | _, 0 => []
  | x, m + 1 => if x = d then [] else x :: goO nx d (nx x) m
def orbO (nx : α → α) (m : Nat) (d : α) : List α := d :: goO nx d (nx d) m
def facesO (nx : α → α) (m : Nat) : List α → List α → List (List α)
  | _, [] => []
  | met, d :: ds => if d ∈ met then facesO nx m met ds else orbO nx m d :: facesO nx m (met ++ orbO nx m d) ds
theorem facesO_congr {nx : α → α} {m : Nat} : ∀ (ds : List α) {met met' : List α}, (∀ x, x ∈ met ↔ x ∈ met') → facesO nx m met ds = facesO nx m met' ds
  | [], _, _, _ => rfl
  | d :: ds, met, met', h => by
    simp only [facesO]
    by_cases hd : d ∈ met
    · rw [if_pos hd, if_pos ((h d).1 hd)]; exact facesO_congr ds h
    · rw [if_neg hd, if_neg (fun hh => hd ((h d).2 hh))]
      rw [facesO_congr ds (met := met ++ orbO nx m d) (met' := met' ++ orbO nx m d) (fun x => by simp only [List.mem_append, h x])]
/-- A turning of some things. -/
structure Turn (nx : α → α) (D : α → Prop) : Prop where
  to : ∀ x, D x → D (nx x)
  inj : ∀ x y, D x → D y → nx x = nx y → x = y
/-- A way round, under way. -/
structure Way (nx : α → α) (D : α → Prop) (m : Nat) (met : List α) (d : α) (f : List α) (x : α) : Prop where
  ne : ∃ g, f = d :: g
  nd : f.Nodup
  mem : ∀ y ∈ f, D y
  out : ∀ y ∈ f, y ∉ met
  last : ∃ y, f.getLast? = some y ∧ x = nx y
  back : ∀ y ∈ f, y ≠ d → ∃ z ∈ f, y = nx z ∧ f.getLast? ≠ some z
  orb : orbO nx m d = f ++ goO nx d x (m + 1 - f.length)
  dx : D x
theorem Way.start {nx : α → α} {D : α → Prop} (ht : Turn nx D) {m : Nat} {met : List α} {d : α} (hd : D d) (hm : d ∉ met) : Way nx D m met d [d] (nx d) :=
  ⟨⟨[], rfl⟩, by simp, by simpa using hd, by simpa using hm, ⟨d, rfl, rfl⟩, fun y hy hne => absurd (by simpa using hy) hne, rfl, ht.to d hd⟩
theorem Way.next {nx : α → α} {D : α → Prop} (ht : Turn nx D) {m : Nat} {met : List α} {d : α} {f : List α} {x : α} (h : Way nx D m met d f x) (hx : x ∉ met) (hf : x ∉ f) (hm : f.length ≤ m) : Way nx D m met d (f ++ [x]) (nx x) := by
  obtain ⟨g, hg⟩ := h.ne
  have hxd : x ≠ d := by rintro rfl; exact hf (by rw [hg]; simp)
  refine ⟨⟨g ++ [x], by rw [hg]; rfl⟩, ?_, ?_, ?_, ⟨x, by simp, rfl⟩, ?_, ?_, ht.to x h.dx⟩
  · rw [List.nodup_append]; exact ⟨h.nd, by simp, fun a ha b hb hab => by simp at hb; subst hb; subst hab; exact hf ha⟩
  · intro y hy; rcases List.mem_append.1 hy with h1 | h1
    · exact h.mem y h1
    · simp at h1; subst h1; exact h.dx
  · intro y hy; rcases List.mem_append.1 hy with h1 | h1
    · exact h.out y h1
    · simp at h1; subst h1; exact hx
  · intro y hy hne
    rcases List.mem_append.1 hy with h1 | h1
    · obtain ⟨z, hz, h2, _⟩ := h.back y h1 hne
      exact ⟨z, List.mem_append_left _ hz, h2, by simp; rintro rfl; exact hf hz⟩
    · simp at h1; subst h1
      obtain ⟨z, hz, h2⟩ := h.last
      exact ⟨z, List.mem_append_left _ (List.mem_of_getLast? hz), h2, by simp; rintro rfl; exact hf (List.mem_of_getLast? hz)⟩
  · rw [h.orb, show m + 1 - f.length = (m + 1 - (f ++ [x]).length) + 1 by simp; omega]
    simp only [goO, if_neg hxd, List.append_assoc, List.singleton_append]
/-- What is met is whole orbits. -/
def Whole (nx : α → α) (D : α → Prop) (met : List α) : Prop := ∀ x, D x → nx x ∈ met → x ∈ met
theorem Way.done {nx : α → α} {D : α → Prop} (ht : Turn nx D) {m : Nat} {met : List α} {d : α} {f : List α} {x : α} (h : Way nx D m met d f x) (hw : Whole nx D met) (hx : x ∈ met ∨ x ∈ f) :
    f = orbO nx m d ∧ Whole nx D (met ++ f) := by
  obtain ⟨y, hy, hxy⟩ := h.last
  have hyf := List.mem_of_getLast? hy
  have hxm : x ∉ met := fun hh => h.out y hyf (hw y (h.mem y hyf) (hxy ▸ hh))
  have hxf := hx.resolve_left hxm
  have hxd : x = d := by
    refine Classical.byContradiction fun hne => ?_
    obtain ⟨z, hz, h2, h3⟩ := h.back x hxf hne
    have := ht.inj y z (h.mem y hyf) (h.mem z hz) (hxy ▸ h2)
    exact h3 (this ▸ hy)
  refine ⟨?_, ?_⟩
  · rw [h.orb, hxd]
    cases m + 1 - f.length with
    | zero => simp [goO]
    | succ k => simp [goO]
  · intro z hz hzm
    rcases List.mem_append.1 hzm with h1 | h1
    · exact List.mem_append_left _ (hw z hz h1)
    · refine List.mem_append_right _ ?_
      by_cases hzd : nx z = d
      · have : z = y := ht.inj z y hz (h.mem y hyf) (by rw [hzd, ← hxy, hxd])
        rw [this]; exact hyf
      · obtain ⟨u, hu, h2, _⟩ := h.back (nx z) h1 hzd
        have := ht.inj z u hz (h.mem u hu) h2
        rw [this]; exact hu
/-- All the faces so far: of the things 'ds' that are to come, the rest. -/
structure FInv (nx : α → α) (D : α → Prop) (m : Nat) (all : List α) (k : Nat) (met : List α) (out : List (List α)) : Prop where
  whole : Whole nx D met
  nd : met.Nodup
  mem : ∀ x ∈ met, D x
  eq : facesO nx m [] all = out ++ facesO nx m met (all.drop k)
theorem FInv.start (nx : α → α) (D : α → Prop) (m : Nat) (all : List α) : FInv nx D m all 0 [] [] := ⟨fun _ _ h => by simp at h, by simp, by simp, by simp⟩
theorem FInv.skip {nx : α → α} {D : α → Prop} {m : Nat} {all : List α} {k : Nat} {met : List α} {out : List (List α)} (h : FInv nx D m all k met out) (hk : k < all.length) (hm : all[k] ∈ met) : FInv nx D m all (k + 1) met out :=
  ⟨h.whole, h.nd, h.mem, by rw [h.eq, List.drop_eq_getElem_cons hk]; simp only [facesO, if_pos hm]⟩
theorem FInv.face {nx : α → α} {D : α → Prop} (ht : Turn nx D) {m : Nat} {all : List α} {k : Nat} {met : List α} {out : List (List α)} {f : List α} {x : α} (h : FInv nx D m all k met out) (hk : k < all.length)
    (hw : Way nx D m met all[k] f x) (hx : x ∈ met ∨ x ∈ f) : FInv nx D m all (k + 1) (met ++ f) (out ++ [f]) := by
  obtain ⟨h1, h2⟩ := hw.done ht h.whole hx
  obtain ⟨g, hg⟩ := hw.ne
  refine ⟨h2, ?_, ?_, ?_⟩
  · rw [List.nodup_append]; exact ⟨h.nd, hw.nd, fun a ha b hb hab => by subst hab; exact hw.out a hb ha⟩
  · intro y hy; rcases List.mem_append.1 hy with h3 | h3
    · exact h.mem y h3
    · exact hw.mem y h3
  · rw [h.eq, List.drop_eq_getElem_cons hk]
    have : all[k] ∉ met := hw.out _ (by rw [hg]; simp)
    simp only [facesO, if_neg this]
    rw [← h1]; simp
end
/-! ### Darts and rotations -/
def nxtD (rs : List (List Nat)) (d : ND) : ND := (d.2, (rs.getD d.2 []).getD (((rs.getD d.2 []).idxOf d.1 + 1) % (rs.getD d.2 []).length) 0)
structure Rot (n : Nat) (E : List NE) (rs : List (List Nat)) : Prop where
  len : rs.length = n
  nd : ∀ v, (rs.getD v []).Nodup
  mem : ∀ v u, u ∈ rs.getD v [] ↔ adj E v u
theorem Rot.next {n : Nat} {E : List NE} {rs : List (List Nat)} (h : Rot n E rs) {d : ND} (hd : adj E d.1 d.2) : ∃ hl : ((rs.getD d.2 []).idxOf d.1 + 1) % (rs.getD d.2 []).length < (rs.getD d.2 []).length, nxtD rs d = (d.2, (rs.getD d.2 [])[((rs.getD d.2 []).idxOf d.1 + 1) % (rs.getD d.2 []).length]) := by
  have hm := (h.mem d.2 d.1).2 hd.symm
  have hl : ((rs.getD d.2 []).idxOf d.1 + 1) % (rs.getD d.2 []).length < (rs.getD d.2 []).length := Nat.mod_lt _ (List.length_pos_of_mem hm)
  exact ⟨hl, by simp only [nxtD]; rw [List.getD_eq_getElem?_getD, List.getElem?_eq_getElem hl]; rfl⟩
theorem mod_inj {L a b : Nat} (ha : a < L) (hb : b < L) (h : (a + 1) % L = (b + 1) % L) : a = b := by
  have key : ∀ a b, a < L → b < L → (a + 1) % L = (b + 1) % L → a ≤ b → a = b := by
    intro a b ha hb hm hab
    rcases Nat.lt_or_ge (b + 1) L with h1 | h1
    · rw [Nat.mod_eq_of_lt (by omega), Nat.mod_eq_of_lt h1] at hm; omega
    · have hbL : b + 1 = L := by omega
      rw [hbL, Nat.mod_self] at hm
      rcases Nat.lt_or_ge (a + 1) L with h2 | h2
      · rw [Nat.mod_eq_of_lt h2] at hm; omega
      · omega
  rcases Nat.le_total a b with hab | hab
  · exact key a b ha hb h hab
  · exact (key b a hb ha h.symm hab).symm
theorem Rot.turn {n : Nat} {E : List NE} {rs : List (List Nat)} (h : Rot n E rs) : Turn (nxtD rs) (fun d : ND => adj E d.1 d.2) := by
  refine ⟨fun d hd => ?_, fun x y hx hy hxy => ?_⟩
  · obtain ⟨hl, he⟩ := h.next hd
    rw [he]; exact (h.mem _ _).1 (List.getElem_mem hl)
  · obtain ⟨hl, he⟩ := h.next hx
    obtain ⟨hl', he'⟩ := h.next hy
    rw [he, he'] at hxy
    obtain ⟨x1, x2⟩ := x
    obtain ⟨y1, y2⟩ := y
    simp only [Prod.mk.injEq] at hxy
    obtain ⟨rfl, h2⟩ := hxy
    simp only at hl hl' h2 hx hy
    have h3 := (List.getElem_inj (h.nd x2)).1 h2
    have hi := List.idxOf_lt_length_of_mem ((h.mem x2 x1).2 hx.symm)
    have hj := List.idxOf_lt_length_of_mem ((h.mem x2 y1).2 hy.symm)
    have h4 : (rs.getD x2 []).idxOf x1 = (rs.getD x2 []).idxOf y1 := mod_inj hi hj h3
    have e1 := List.getElem_idxOf hi
    have e2 := List.getElem_idxOf hj
    simp only [h4] at e1
    rw [← e1, e2]
/-- The darts of a graph. -/
def dartsL (E : List NE) : List ND := E.flatMap fun e => [(e.1, e.2.1), (e.2.1, e.1)]
theorem mem_dartsL {E : List NE} {d : ND} : d ∈ dartsL E ↔ adj E d.1 d.2 := by
  unfold dartsL adj
  rw [List.mem_flatMap]
  constructor
  · rintro ⟨e, he, h⟩
    simp at h
    rcases h with rfl | rfl
    · exact ⟨e, he, .inl ⟨rfl, rfl⟩⟩
    · exact ⟨e, he, .inr ⟨rfl, rfl⟩⟩
  · rintro ⟨e, he, ⟨h1, h2⟩ | ⟨h1, h2⟩⟩
    · exact ⟨e, he, by simp [h1, h2]⟩
    · exact ⟨e, he, by simp [h1, h2]⟩
theorem dartsL_length (E : List NE) : (dartsL E).length = 2 * E.length := by
  induction E with
  | nil => rfl
  | cons e E ih => simp only [dartsL, List.flatMap_cons, List.length_append] at ih ⊢; rw [ih]; simp; omega
theorem nodup_leD : ∀ (l m : List ND), l.Nodup → (∀ x ∈ l, x ∈ m) → l.length ≤ m.length
  | [], _, _, _ => by simp
  | x :: l, m, hn, hs => by
    rw [List.nodup_cons] at hn
    have hx := hs x (by simp)
    have := nodup_leD l (m.erase x) hn.2 (fun y hy => by
      have hyx : y ≠ x := by rintro rfl; exact hn.1 hy
      exact (List.mem_erase_of_ne hyx).2 (hs y (by simp [hy])))
    have hp := List.length_erase_of_mem hx
    have := List.length_pos_of_mem hx
    simp only [List.length_cons]; omega
theorem Way.len {nx : ND → ND} {E : List NE} {met f : List ND} {d x : ND} (h : Way nx (fun d => adj E d.1 d.2) (2 * E.length) met d f x) (hx : x ∉ f) : f.length + 1 ≤ 2 * E.length := by
  rw [← dartsL_length]
  exact nodup_leD (f ++ [x]) (dartsL E) (by rw [List.nodup_append]; exact ⟨h.nd, by simp, fun a ha b hb hab => by simp at hb; subst hb; subst hab; exact hx ha⟩) (fun y hy => by
    rw [mem_dartsL]; rcases List.mem_append.1 hy with h1 | h1
    · exact h.mem y h1
    · simp at h1; subst h1; exact h.dx) |> fun h => by simpa using h
theorem ltD_irrefl (a : ND) : ¬ ltD a a := by unfold ltD; omega
theorem ltD_asymm {a b : ND} (h : ltD a b) : ¬ ltD b a := by unfold ltD at *; omega
theorem sortedD_ext : ∀ {l m : List ND}, l.Pairwise ltD → m.Pairwise ltD → (∀ x, x ∈ l ↔ x ∈ m) → l = m
  | [], [], _, _, _ => rfl
  | [], b :: m, _, _, h => by have := (h b).2 (by simp); simp at this
  | a :: l, [], _, _, h => by have := (h a).1 (by simp); simp at this
  | a :: l, b :: m, hl, hm, h => by
    rw [List.pairwise_cons] at hl hm
    have hab : a = b := by
      refine Classical.byContradiction fun hne => ?_
      have h1 : a ∈ m := by have := (h a).1 (by simp); simpa [hne] using this
      have h2 : b ∈ l := by have := (h b).2 (by simp); simpa [Ne.symm hne] using this
      exact ltD_asymm (hl.1 b h2) (hm.1 a h1)
    subst hab
    have : l = m := sortedD_ext hl.2 hm.2 fun x => by
      have := h x
      simp only [List.mem_cons] at this
      constructor
      · intro hx
        rcases this.1 (.inr hx) with rfl | h1
        · exact absurd (hl.1 x hx) (ltD_irrefl x)
        · exact h1
      · intro hx
        rcases this.2 (.inr hx) with rfl | h1
        · exact absurd (hm.1 x hx) (ltD_irrefl x)
        · exact h1
    rw [this]
theorem dartsL_nodup {n : Nat} {E : List NE} (hg : GOk n E) : (dartsL E).Nodup := by
  have h := hg.hs
  have he := hg.he
  clear hg
  induction E with
  | nil => simp [dartsL]
  | cons e E ih =>
    rw [List.pairwise_cons] at h
    have h0 := he e (by simp)
    have ih := ih h.2 (fun a ha => he a (by simp [ha]))
    simp only [dartsL, List.flatMap_cons] at ih ⊢
    rw [List.nodup_append]
    refine ⟨by simp; intro h1 h2; omega, ih, fun a ha b hb hab => ?_⟩
    subst hab
    obtain ⟨e', he', hb⟩ := List.mem_flatMap.1 hb
    have h1 := h.1 e' he'
    have h2 := he e' (by simp [he'])
    unfold ltE at h1
    simp at ha hb
    rcases ha with rfl | rfl <;> rcases hb with hb | hb <;> simp only [Prod.mk.injEq] at hb <;> omega
def pairsL (n : Nat) : List ND := (List.range (n * n)).map fun i => (i / n, i % n)
theorem pairsL_sorted (n : Nat) : (pairsL n).Pairwise ltD := by
  unfold pairsL
  rw [List.pairwise_map]
  refine List.pairwise_lt_range.imp ?_
  intro i j h
  show ltD (i / n, i % n) (j / n, j % n)
  unfold ltD
  have h1 : i / n ≤ j / n := Nat.div_le_div_right (Nat.le_of_lt h)
  rcases Nat.lt_or_ge (i / n) (j / n) with h2 | h2
  · exact .inl h2
  · have h3 : i / n = j / n := by omega
    refine .inr ⟨h3, ?_⟩
    have e1 := Nat.div_add_mod i n
    have e2 := Nat.div_add_mod j n
    rw [h3] at e1
    show i % n < j % n
    omega
theorem mem_pairsL {n : Nat} {d : ND} : d ∈ pairsL n ↔ d.1 < n ∧ d.2 < n := by
  unfold pairsL
  rw [List.mem_map]
  constructor
  · rintro ⟨i, hi, rfl⟩
    rw [List.mem_range] at hi
    have hn : 0 < n := by
      rcases Nat.eq_zero_or_pos n with h | h
      · subst h; simp at hi
      · exact h
    exact ⟨Nat.div_lt_of_lt_mul hi, Nat.mod_lt _ hn⟩
  · rintro ⟨h1, h2⟩
    refine ⟨d.1 * n + d.2, ?_, ?_⟩
    · rw [List.mem_range]
      have : (d.1 + 1) * n ≤ n * n := Nat.mul_le_mul_right n h1
      rw [Nat.add_mul] at this; omega
    · have hn : 0 < n := by omega
      have e1 : (d.1 * n + d.2) / n = d.1 := by rw [Nat.mul_comm, Nat.mul_add_div hn, Nat.div_eq_of_lt h2]; rfl
      have e2 : (d.1 * n + d.2) % n = d.2 := by rw [Nat.mul_comm, Nat.mul_add_mod, Nat.mod_eq_of_lt h2]
      rw [e1, e2]
/-- The darts in their order. -/
def dartS (n : Nat) (rs : List (List Nat)) : List ND := (pairsL n).filter fun d => decide (d.2 ∈ rs.getD d.1 [])
theorem dartS_eq {n : Nat} {E : List NE} {rs : List (List Nat)} (hg : GOk n E) (h : Rot n E rs) {ds : List ND} (hp : ds.Perm (dartsL E)) (hs : ds.Pairwise fun a b => ¬ ltD b a) : ds = dartS n rs := by
  have hn : ds.Nodup := hp.nodup_iff.2 (dartsL_nodup hg)
  refine sortedD_ext ?_ ((pairsL_sorted n).filter _) fun x => ?_
  · refine List.Pairwise.imp₂ ?_ hs hn
    intro a b h1 h2
    unfold ltD at *
    rcases Nat.lt_trichotomy a.1 b.1 with h3 | h3 | h3
    · exact .inl h3
    · refine .inr ⟨h3, ?_⟩
      rcases Nat.lt_trichotomy a.2 b.2 with h4 | h4 | h4
      · exact h4
      · exact absurd (Prod.ext h3 h4) h2
      · exact absurd (.inr ⟨h3.symm, h4⟩) h1
    · exact absurd (.inl h3) h1
  · rw [hp.mem_iff, mem_dartsL]
    unfold dartS
    rw [List.mem_filter, mem_pairsL, decide_eq_true_eq, h.mem]
    exact ⟨fun ha => ⟨⟨(hg.adj_lt ha).1, (hg.adj_lt ha).2.1⟩, ha⟩, fun ha => ha.2⟩
/-- The faces of a rotation. -/
def facesL (n : Nat) (E : List NE) (rs : List (List Nat)) : List (List ND) := facesO (nxtD rs) (2 * E.length) [] (dartS n rs)
theorem facesO_head {α : Type} [DecidableEq α] {nx : α → α} {m : Nat} : ∀ (ds met : List α), ∀ f ∈ facesO nx m met ds, ∃ d g, f = d :: g ∧ d ∈ ds
  | [], _, f, hf => by simp [facesO] at hf
  | d :: ds, met, f, hf => by
    simp only [facesO] at hf
    split at hf
    · obtain ⟨d', g, h1, h2⟩ := facesO_head ds met f hf
      exact ⟨d', g, h1, by simp [h2]⟩
    · rcases List.mem_cons.1 hf with rfl | hf
      · exact ⟨d, _, rfl, by simp⟩
      · obtain ⟨d', g, h1, h2⟩ := facesO_head ds _ f hf
        exact ⟨d', g, h1, by simp [h2]⟩
/-! ### Euler's number -/
def edgeN (E : List NE) (c : List Nat) : Nat := (E.filter fun e => decide (e.1 ∈ c)).length
def fst0 (f : List ND) : Nat := (f.headD (0, 0)).1
def faceN (fs : List (List ND)) (c : List Nat) : Nat := (fs.filter fun f => decide (fst0 f ∈ c)).length
def eulP (E : List NE) (fs : List (List ND)) (c : List Nat) : Int := (if c.length = 1 then 2 else (c.length : Int)) - edgeN E c + faceN fs c
def eulR (E : List NE) (fs : List (List ND)) (c : List Nat) : Int := (c.length : Int) - edgeN E c + faceN fs c + (if edgeN E c = 0 then 1 else 0)
theorem comp_one {n : Nat} {E : List NE} (hg : GOk n E) {c : List Nat} (h : IsComp E c) : c.length = 1 ↔ edgeN E c = 0 := by
  obtain ⟨hs, r, hr, hm⟩ := h
  have hno : edgeN E c = 0 ↔ ∀ e ∈ E, e.1 ∉ c := by
    unfold edgeN
    rw [List.length_eq_zero_iff, List.filter_eq_nil_iff]
    simp
  rw [hno]
  constructor
  · intro h1 e he hec
    match c, h1 with
    | [a], _ =>
      have h2 : e.2.1 ∈ [a] := (hm _).2 (((hm _).1 hec).step ⟨e, he, .inl ⟨rfl, rfl⟩⟩)
      have := hg.he e he
      simp at hec h2; omega
  · intro h1
    have key : ∀ x, Conn E r x → x = r := by
      intro x hx
      induction hx with
      | refl => rfl
      | @step v w _ ha ih =>
        subst ih
        have hw : w ∈ c := (hm w).2 (.step .refl ha)
        obtain ⟨e, he, ⟨h2, h3⟩ | ⟨h2, h3⟩⟩ := ha
        · exact absurd (h2 ▸ hr) (h1 e he)
        · exact absurd (h2 ▸ hw) (h1 e he)
    match c, hs, hr, hm with
    | [a], _, _, _ => rfl
    | a :: b :: c, hs, _, hm =>
      have h2 := key a ((hm a).1 (by simp))
      have h3 := key b ((hm b).1 (by simp))
      rw [List.pairwise_cons] at hs
      have := hs.1 b (by simp)
      omega
theorem eul_eq {n : Nat} {E : List NE} {rs : List (List Nat)} (hg : GOk n E) (hR : Rot n E rs) {c : List Nat} (h : IsComp E c) (hc : ∀ x ∈ c, x < n) : eulP E (facesL n E rs) c = eulR E (facesL n E rs) c := by
  have h1 := comp_one hg h
  unfold eulP eulR
  by_cases h2 : c.length = 1
  · have h3 := h1.1 h2
    rw [if_pos h2, if_pos h3, h2]; omega
  · rw [if_neg h2, if_neg (fun h3 => h2 (h1.2 h3))]; omega
theorem Comps.same {n : Nat} {E : List NE} {cs ds : List (List Nat)} (h : Comps n E cs) (h' : Comps n E ds) {c : List Nat} (hc : c ∈ cs) : c ∈ ds := by
  obtain ⟨hs, r, hr, hm⟩ := h.c c hc
  obtain ⟨d, hd, hrd⟩ := h'.all r (h.lt c hc r hr)
  have hds := (h'.c d hd).1
  have : c = d := sorted_ext hs hds fun x => by rw [hm x]; exact ((h'.c d hd).mem hrd).symm
  rw [this]; exact hd
end Go.Proofs.YtdmodppoellbkaaGreat
