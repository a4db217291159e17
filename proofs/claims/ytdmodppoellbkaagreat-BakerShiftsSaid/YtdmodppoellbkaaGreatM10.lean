/-
The law filigreelaw20.BakerShifts returns true whatever the input, and its arguments read behind the call as they read before. Conditions: none beyond the row's own.
-/
import Derived.Test.YtdmodppoellbkaaGreatM8
import Derived.Test.YtdmodppoellbkaaGreatRows
import Derived.ProofKit
import Derived.SizedLaws
import Derived.Carry
import Derived.OpenShut
import Derived.Test.YtdmodppoellbkaaGreatChecked
set_option linter.unusedVariables false
set_option linter.unusedSimpArgs false
namespace Go.Proofs.YtdmodppoellbkaaGreat
open Go Go.RowKit Go.ChangeShapes Go.WideShapes Go.ChangeAt
def cx (W : World) : Cx := ⟨W.heap.size, W, Nat.le_refl _⟩
theorem own0 (W : World) : Own (cx W) nothing W.heap.size W :=
  ⟨Below.refl _ _, (fun b o h => by cases h), rfl, (fun b o h => by cases h), Nat.le_refl _, (fun b es it left cur h => by cases h), Nat.le_refl _⟩
theorem cell_lt {W : World} {a : Addr} {v : Value} (h : W.cell? a = some v) : a.block < W.heap.size ∧ a.spot = none := by
  unfold World.cell? at h
  split at h
  · rename_i hb
    split at h
    · cases h
    · rename_i hs
      refine ⟨(Array.getElem?_eq_some_iff.1 hb).1, ?_⟩
      cases hsp : a.spot with
      | none => rfl
      | some s => rw [hsp] at hs; exact absurd rfl hs
  · cases h
theorem okWide_fields {Q : Program} {w : World} {r : Reach} {base : Nat} {t : TypeId} {v : Value} {fs : Array Field} (ht : Q.underlying t = some (.struct fs)) (h : Value.okWide Q w r base t v) : ∃ cs, v = .agg cs ∧ cs.size = Q.cellsOf t := by
  simp only [Value.okWide, ht] at h
  obtain ⟨cs, h1, h2, _⟩ := h
  exact ⟨cs, h1, h2⟩
theorem add_add' (a : Addr) (i j : Nat) (hj : 0 < j) : (a.add i).add j = a.add (i + j) := by
  have h1 : ¬ j = 0 := by omega
  have h2 : ¬ i + j = 0 := by omega
  unfold Addr.add
  rw [if_neg h1, if_neg h2]
  split
  · rename_i h; subst h; simp
  · simp [Nat.add_assoc]
theorem rd_cx {W : World} {b o i : Nat} {v : Value} (h : W.cell? ((⟨b, o, none⟩ : Addr).add i) = some v) : rd (cx W) nothing b (o + i) = some v := by
  have e : ((⟨b, o, none⟩ : Addr).add i) = ⟨b, o + i, none⟩ := by
    unfold Addr.add
    split
    · rename_i h; subst h; rfl
    · rfl
  rw [e] at h
  have h1 := cell_lt h
  unfold rd
  have h2 : b < (cx W).B := h1.1
  rw [if_pos h2]; exact h
theorem rds_mk {W : World} {a : Addr} {len cap sz : Nat} {cs : List Value} (hcap : len ≤ cap) (hl : cs.length = len * sz) (hsz : 0 < sz) (hc : ∀ j u, cs[j]? = some u → W.cell? (a.add j) = some u) : RdS (cx W) nothing (.slice (some a) len cap) sz cs :=
  ⟨_, len, cap, rfl, hcap, hl, fun hk => by
    have h0 : 0 < cs.length := by rw [hl]; exact Nat.mul_pos hk hsz
    have hs0 := hc 0 cs[0] (List.getElem?_eq_getElem h0)
    rw [show a.add 0 = a by simp [Addr.add]] at hs0
    have hs := (cell_lt hs0).2
    obtain ⟨b, o, s⟩ := a
    simp only at hs
    subst hs
    exact ⟨b, o, rfl, fun j u hu => rd_cx (hc j u hu)⟩⟩
theorem exists_list {β : Type} (Q : Nat → β → Prop) : ∀ len, (∀ i, i < len → ∃ y, Q i y) → ∃ l : List β, l.length = len ∧ ∀ i y, l[i]? = some y → Q i y
  | 0, _ => ⟨[], rfl, fun i y h => by simp at h⟩
  | len + 1, h => by
    obtain ⟨l, h1, h2⟩ := exists_list Q len fun i hi => h i (by omega)
    obtain ⟨y, hy⟩ := h len (by omega)
    refine ⟨l ++ [y], by simp [h1], fun i z hz => ?_⟩
    rcases Nat.lt_or_ge i len with hi | hi
    · rw [List.getElem?_append_left (by omega)] at hz; exact h2 i z hz
    · rw [List.getElem?_append_right (by omega)] at hz
      have h0 : i - l.length = 0 := by
        rcases Nat.eq_zero_or_pos (i - l.length) with h' | h'
        · exact h'
        · rw [List.getElem?_eq_none (by simp; omega)] at hz; cases hz
      rw [h0] at hz; simp at hz; subst hz
      obtain rfl : i = len := by omega
      exact hy
section
variable {H : Type} {enc : TypeId × Value → H} {W : World}
theorem cells26 : Tryz.prog.cellsOf 26 = 1 := by kernel_rfl
theorem cells3 : Tryz.prog.cellsOf 3 = 1 := by kernel_rfl
theorem cells2 : Tryz.prog.cellsOf 2 = 1 := by kernel_rfl
theorem cells22 : Tryz.prog.cellsOf 22 = 1 := by kernel_rfl
theorem cells43 : Tryz.prog.cellsOf 43 = 3 := by kernel_rfl
theorem cells24 : Tryz.prog.cellsOf 24 = 2 := by kernel_rfl
theorem ints26 {n : Nat} {v : Value} {x : DataW H × List MemPlace} (h : DataW.trod enc Tryz.prog W 0 (fun _ => true) true n 26 [v] = some x) :
    ∃ xs : List Int, RdS (cx W) nothing v 1 (ints xs) ∧ (xs = [] ∨ ∃ el sp, x.1 = .slice el sp ∧ el.length = xs.length) := by
  rcases open_ints Tryz.underlying26 Tryz.underlying3 cells3 h with ⟨hc, _⟩ | ⟨a, len, cap, zs, hc, _, hle, _, hz, hx, hcell, _⟩
  · have hv : v = .slice none 0 0 := by simpa using hc
    subst hv
    exact ⟨[], RdS.nil _, .inl rfl⟩
  · have hv : v = .slice (some a) len cap := by simpa using hc
    subst hv
    have hz' : zs.length = cap := by simpa using hz
    have hl : (zs.take len).length = len := by rw [List.length_take]; omega
    refine ⟨zs.take len, rds_mk hle (by rw [ints_length, hl, Nat.mul_one]) (by decide) (fun j u hu => ?_), .inr ⟨_, _, by rw [hx], by simp [lits]⟩⟩
    have hj : j < len := by
      have := (List.getElem?_eq_some_iff.1 hu).1
      rw [ints_length, hl] at this; exact this
    rw [hcell j (by omega)]
    rw [ints_get (by rw [hl]; exact hj)] at hu
    cases hu
    rw [List.getElem_take, List.getD_eq_getElem?_getD, List.getElem?_eq_getElem (by omega)]; rfl
theorem one_cell {a : Addr} {n : Nat} {t : TypeId} {y : DataW H × List MemPlace} (hc : Tryz.prog.cellsOf t = 1) (h : (W.cells? 0 a (Tryz.prog.cellsOf t)).bind (DataW.trod enc Tryz.prog W 0 (fun _ => true) true n t) = some y) :
    ∃ u, W.cell? a = some u ∧ DataW.trod enc Tryz.prog W 0 (fun _ => true) true n t [u] = some y := by
  rw [hc] at h
  obtain ⟨cs, h1, h2⟩ := Option.bind_eq_some_iff.1 h
  obtain ⟨_, hl, hcs⟩ := World.cells?_some h1
  match cs, hl with
  | [u], _ =>
    have := hcs 0 (by decide)
    rw [show a.add 0 = a by simp [Addr.add]] at this
    exact ⟨u, this, h2⟩
theorem rows25 {n : Nat} {v : Value} {x : DataW H × List MemPlace} (h : DataW.trod enc Tryz.prog W 0 (fun _ => true) true n 25 [v] = some x) :
    ∃ rss : List (List Int), Rd2I (cx W) nothing v rss ∧ (rss = [] ∨ ∃ (el sp : List (DataW H)), x.1 = .slice el sp ∧ el.length = rss.length ∧ ∀ (i : Nat) (xs : List Int), rss[i]? = some xs → xs = [] ∨ ∃ (el2 sp2 : List (DataW H)), el[i]? = some (DataW.slice el2 sp2) ∧ el2.length = xs.length) := by
  rcases DataW.trod_slice Tryz.underlying25 h with ⟨hc, _⟩ | ⟨a, len, cap, elems, rest, m, _, hc, hx, _, hle, _, hlen, hel, _⟩
  · have hv : v = .slice none 0 0 := by simpa using hc
    subst hv
    exact ⟨[], ⟨[], RdS.nil _, rfl, fun i u xs hu => by simp at hu⟩, .inl rfl⟩
  · have hv : v = .slice (some a) len cap := by simpa using hc
    subst hv
    obtain ⟨l, hl, hQ⟩ := exists_list (fun i (p : Value × List Int) => W.cell? (a.add i) = some p.1 ∧ RdS (cx W) nothing p.1 1 (ints p.2) ∧ (p.2 = [] ∨ ∃ el2 sp2, (elems.map (·.1))[i]? = some (DataW.slice el2 sp2) ∧ el2.length = p.2.length)) len (fun i hi => by
      obtain ⟨y, hy⟩ := get_ex (l := elems) (i := i) (by omega)
      have he := hel i hi
      rw [hy] at he
      obtain ⟨u, h1, h2⟩ := one_cell cells26 he
      obtain ⟨xs, h3, h4⟩ := ints26 h2
      rw [cells26, Nat.mul_one] at h1
      exact ⟨(u, xs), h1, h3, h4.imp id fun ⟨el, sp, e1, e2⟩ => ⟨el, sp, by rw [List.getElem?_map, hy, Option.map_some, e1], e2⟩⟩)
    refine ⟨l.map (·.2), ⟨l.map (·.1), rds_mk hle (by simp [hl]) (by decide) (fun j u hu => ?_), by simp, fun i u xs hu hx => ?_⟩, .inr ⟨_, _, by rw [hx], by simp [hl, hlen], fun i xs hx => ?_⟩⟩
    · rw [List.getElem?_map] at hu
      obtain ⟨p, hp, rfl⟩ := Option.map_eq_some_iff.1 hu
      exact (hQ j p hp).1
    · rw [List.getElem?_map] at hu hx
      obtain ⟨p, hp, rfl⟩ := Option.map_eq_some_iff.1 hu
      rw [hp] at hx; cases hx
      exact (hQ i p hp).2.1
    · rw [List.getElem?_map] at hx
      obtain ⟨p, hp, rfl⟩ := Option.map_eq_some_iff.1 hx
      exact (hQ i p hp).2.2
theorem take_one {cs : List Value} {k m : Nat} {q : IntKind} (h : (cs.drop k).take 1 = [.int q m]) : cs[k]? = some (.int q m) := by
  have := congrArg (fun l => l[0]?) h
  simpa using this
theorem get_of_take {cs : List Value} {k : Nat} {u : Value} (h : (cs.drop k).take 1 = [u]) : cs[k]? = some u := by
  have := congrArg (fun l => l[0]?) h
  simpa using this
theorem edges22 {n : Nat} {v : Value} {x : DataW H × List MemPlace} (h : DataW.trod enc Tryz.prog W 0 (fun _ => true) true n 22 [v] = some x) : ∃ E : List Ed, RdS (cx W) nothing v 3 (ecs E) := by
  rcases DataW.trod_slice Tryz.underlying22 h with ⟨hc, _⟩ | ⟨a, len, cap, elems, rest, m, _, hc, hx, _, hle, _, hlen, hel, _⟩
  · have hv : v = .slice none 0 0 := by simpa using hc
    subst hv
    exact ⟨[], RdS.nil _⟩
  · have hv : v = .slice (some a) len cap := by simpa using hc
    subst hv
    obtain ⟨E, hl, hQ⟩ := exists_list (fun i (e : Ed) => W.cell? (a.add (i * 3)) = some (.int .i64 e.1) ∧ W.cell? (a.add (i * 3 + 1)) = some (.int .i64 e.2.1) ∧ W.cell? (a.add (i * 3 + 2)) = some (.int .i64 e.2.2)) len (fun i hi => by
      obtain ⟨y, hy⟩ := get_ex (l := elems) (i := i) (by omega)
      have he := hel i hi
      rw [hy, cells43] at he
      obtain ⟨cs, h1, h2⟩ := Option.bind_eq_some_iff.1 he
      obtain ⟨_, hl, hcs⟩ := World.cells?_some h1
      obtain ⟨ys, m2, _, _, _, hyl, hf⟩ := DataW.trod_struct Tryz.underlying43 h2
      have f0 : DataW.trod enc Tryz.prog W 0 (fun _ => true) true m2 3 ((cs.drop 0).take (Tryz.prog.cellsOf 3)) = ys[0]? := hf 0 _ rfl
      have f1 : DataW.trod enc Tryz.prog W 0 (fun _ => true) true m2 3 ((cs.drop 1).take (Tryz.prog.cellsOf 3)) = ys[1]? := hf 1 _ rfl
      have f2 : DataW.trod enc Tryz.prog W 0 (fun _ => true) true m2 2 ((cs.drop 2).take (Tryz.prog.cellsOf 2)) = ys[2]? := hf 2 _ rfl
      rw [cells3] at f0 f1
      rw [cells2] at f2
      obtain ⟨y0, hy0⟩ := get_ex (l := ys) (i := 0) (by rw [hyl]; decide)
      obtain ⟨y1, hy1⟩ := get_ex (l := ys) (i := 1) (by rw [hyl]; decide)
      obtain ⟨y2, hy2⟩ := get_ex (l := ys) (i := 2) (by rw [hyl]; decide)
      rw [hy0] at f0; rw [hy1] at f1; rw [hy2] at f2
      obtain ⟨z0, g0, _⟩ := DataW.trod_int Tryz.underlying3 f0
      obtain ⟨z1, g1, _⟩ := DataW.trod_int Tryz.underlying3 f1
      obtain ⟨z2, g2, _⟩ := DataW.trod_int Tryz.underlying2 f2
      have k0 := get_of_take g0; have k1 := get_of_take g1; have k2 := get_of_take g2
      have c0 := hcs 0 (by decide); have c1 := hcs 1 (by decide); have c2 := hcs 2 (by decide)
      refine ⟨(z0, z1, z2), ?_, ?_, ?_⟩
      · rw [show (a.add (i * 3)) = (a.add (i * 3)).add 0 by simp [Addr.add], c0]; exact k0
      · rw [show (a.add (i * 3 + 1)) = (a.add (i * 3)).add 1 from (add_add' _ _ _ (by decide)).symm, c1]; exact k1
      · rw [show (a.add (i * 3 + 2)) = (a.add (i * 3)).add 2 from (add_add' _ _ _ (by decide)).symm, c2]; exact k2)
    refine ⟨E, rds_mk hle (by rw [ecs_length, hl]) (by decide) (fun j u hu => ?_)⟩
    have hj := (List.getElem?_eq_some_iff.1 hu).1
    rw [ecs_length] at hj
    have hi : j / 3 < E.length := by omega
    obtain ⟨g0, g1, g2⟩ := ecs_get E hi
    obtain ⟨q0, q1, q2⟩ := hQ (j / 3) _ (List.getElem?_eq_getElem hi)
    have h3 : j = j / 3 * 3 ∨ j = j / 3 * 3 + 1 ∨ j = j / 3 * 3 + 2 := by omega
    rcases h3 with e | e | e <;> rw [e] at hu ⊢
    · rw [g0] at hu; cases hu; exact q0
    · rw [g1] at hu; cases hu; exact q1
    · rw [g2] at hu; cases hu; exact q2
set_option maxRecDepth 100000 in
theorem graph24 {v : Value} {d : DataW H} {ps : List MemPlace} {b0 : Nat} (hval : Value.okWide Tryz.prog W .any b0 24 v) (h : DataW.Trod enc Tryz.prog W 0 (fun _ => true) true 24 v d ps) :
    ∃ (n : Int) (sv : Value) (E : List Ed), v = .agg #[.int .i64 n, sv] ∧ RdS (cx W) nothing sv 3 (ecs E) := by
  have hs0 : ∃ cs, v = .agg cs ∧ cs.size = Tryz.prog.cellsOf 24 := okWide_fields (Q := Tryz.prog) Tryz.underlying24 hval
  obtain ⟨cs, hv0, hsz⟩ := hs0
  subst hv0
  obtain ⟨f, h⟩ := h
  rw [cells24] at hsz
  obtain ⟨c0, c1, rfl⟩ : ∃ c0 c1, cs = #[c0, c1] := by
    obtain ⟨l⟩ := cs
    match l, hsz with
    | [c0, c1], _ => exact ⟨c0, c1, rfl⟩
  obtain ⟨ys, m2, _, _, _, hyl, hf⟩ := DataW.trod_struct Tryz.underlying24 h
  have f0 : DataW.trod enc Tryz.prog W 0 (fun _ => true) true m2 3 (([c0, c1].drop 0).take (Tryz.prog.cellsOf 3)) = ys[0]? := hf 0 _ rfl
  have f1 : DataW.trod enc Tryz.prog W 0 (fun _ => true) true m2 22 (([c0, c1].drop 1).take (Tryz.prog.cellsOf 22)) = ys[1]? := hf 1 _ rfl
  rw [cells3] at f0
  rw [cells22] at f1
  obtain ⟨y0, hy0⟩ := get_ex (l := ys) (i := 0) (by rw [hyl]; decide)
  obtain ⟨y1, hy1⟩ := get_ex (l := ys) (i := 1) (by rw [hyl]; decide)
  rw [hy0] at f0; rw [hy1] at f1
  obtain ⟨z0, g0, _⟩ := DataW.trod_int Tryz.underlying3 f0
  have e0 : c0 = .int .i64 z0 := by simpa [Value.cells] using g0
  subst e0
  obtain ⟨E, hE⟩ := edges22 (v := c1) f1
  exact ⟨z0, c1, E, rfl, hE⟩
/-! ### How long the lists are -/
theorem mem_weightsAll {e : TypeId} {el : DataW H} {n : Nat} : ∀ {l : List (DataW H)}, el ∈ l → n ∈ el.weights Tryz.prog e → n ∈ DataW.weightsAll Tryz.prog e l
  | [], h, _ => by cases h
  | d :: l, h, hn => by
    simp only [DataW.weightsAll, List.mem_append]
    rcases List.mem_cons.1 h with rfl | h
    · exact .inl hn
    · exact .inr (mem_weightsAll h hn)
theorem bytes26 : Tryz.prog.bytesOf 26 = 24 := by kernel_rfl
theorem bytes3 : Tryz.prog.bytesOf 3 = 8 := by kernel_rfl
theorem rows_bound {rss : List (List Int)} {x : DataW H} (hw : ∀ n ∈ x.weights Tryz.prog 25, n ≤ reachBytes)
    (h : rss = [] ∨ ∃ (el sp : List (DataW H)), x = .slice el sp ∧ el.length = rss.length ∧ ∀ (i : Nat) (xs : List Int), rss[i]? = some xs → xs = [] ∨ ∃ (el2 sp2 : List (DataW H)), el[i]? = some (DataW.slice el2 sp2) ∧ el2.length = xs.length) :
    (∀ xs ∈ rss, xs.length ≤ 4611686018427387904) ∧ rss.length ≤ 4611686018427387904 := by
  have hr : reachBytes = 140737488351232 := by decide
  rcases h with rfl | ⟨el, sp, rfl, hl, hin⟩
  · exact ⟨by simp, by simp⟩
  · refine ⟨fun xs hx => ?_, ?_⟩
    · obtain ⟨i, hi⟩ := List.mem_iff_getElem?.1 hx
      rcases hin i xs hi with rfl | ⟨el2, sp2, h1, h2⟩
      · simp
      · have := hw ((el2.length + sp2.length) * Tryz.prog.bytesOf 3) (by
          simp only [DataW.weights, Tryz.underlying25, List.mem_cons, List.mem_append]
          exact .inr (.inl (mem_weightsAll (List.mem_of_getElem? h1) (by simp [DataW.weights, Tryz.underlying26]))))
        rw [bytes3] at this; omega
    · have := hw ((el.length + sp.length) * Tryz.prog.bytesOf 26) (by simp [DataW.weights, Tryz.underlying25])
      rw [bytes26] at this; omega
end
theorem law_any {W : World} {n k : Int} {E : List Ed} {sv rv iv : Value} {rss : List (List Int)} {xs : List Int} (hbl : ∀ xs ∈ rss, xs.length ≤ 4611686018427387904) (hbr : rss.length ≤ 4611686018427387904)
    (hv : RdS (cx W) nothing sv 3 (ecs E)) (hr : Rd2I (cx W) nothing rv rss) (hx : RdS (cx W) nothing iv 1 (ints xs)) :
    Calls Tryz.prog 3 #[.agg #[.int .i64 n, sv], rv, iv, .int .i64 k] W fun e W' => e = .returned (.bool true) ∧ Below W.heap.size W W' := by
  have h := s3 (cx W) n E sv rv rss hbl hbr iv xs k nothing W.heap.size hv hr hx W (own0 W)
  rw [P_eq] at h
  exact h.mono fun e w' ⟨v, H', N', he, ho, hv, _⟩ => ⟨by rw [he, hv], ho.below⟩
theorem law_shifts {W : World} {n k s m : Int} {E : List Ed} {sv rv : Value} {rss : List (List Int)} (hbl : ∀ xs ∈ rss, xs.length ≤ 4611686018427387904) (hbr : rss.length ≤ 4611686018427387904)
    (hv : RdS (cx W) nothing sv 3 (ecs E)) (hr : Rd2I (cx W) nothing rv rss) :
    Calls Tryz.prog 4 #[.agg #[.int .i64 n, sv], rv, .int .i64 k, .int .i64 s, .int .i64 m] W fun e W' => e = .returned (.bool true) ∧ Below W.heap.size W W' := by
  have h := s4 (cx W) n E sv rv rss hbl hbr k s m nothing W.heap.size hv hr W (own0 W)
  rw [P_eq] at h
  exact h.mono fun e w' ⟨v, H', N', he, ho, hv, _⟩ => ⟨by rw [he, hv], ho.below⟩
end Go.Proofs.YtdmodppoellbkaaGreat
namespace Go.Proofs.YtdmodppoellbkaaGreat
open Go Go.RowKit Go.ChangeShapes Go.WideShapes Go.ChangeAt
theorem Tryz.own : ownKnob Tryz.prog.godebug = none := by kernel_rfl
theorem Tryz.laidOut : laidOutB Tryz.prog = true := by kernel_rfl
theorem weights_at {H : Type} {ts : List TypeId} {ds : List (DataW H)} (h : (DataW.weightsEach Tryz.prog ts ds).all (· ≤ reachBytes) = true) {j : Nat} {t : TypeId} {d : DataW H} (ht : ts[j]? = some t) (hd : ds[j]? = some d) : ∀ n ∈ d.weights Tryz.prog t, n ≤ reachBytes := fun n hn => by
  have := List.all_eq_true.1 h _ (DataW.weights_mem_each ht hd n hn)
  simpa using this
set_option maxRecDepth 100000 in
theorem shifts_lifted (os : Os) (started : os.Started) (H : Type) (enc : TypeId × Value → H) :
    ReturnsInHanded {} Tryz.checked os 4 .any (Rows.bakerShiftsSpec.pre6 enc Tryz.prog Tryz.f4 Rows.bakerShiftsRow.domain false) (Rows.bakerShiftsSpec.post enc Tryz.prog Tryz.f4 false true false false) := by
  refine returnsInHanded_of_change_sized (C := Tryz.checked) Tryz.own started (by kernel_rfl) Tryz.func4
    (ChangeSpec.witness6 (enc := enc) (C := Tryz.checked) false ⟨#[], #[.agg #[.int .i64 0, .slice none 0 0], .slice none 0 0, .int .i64 0, .int .i64 0, .int .i64 0], []⟩ 8 (by kernel_rfl) (by kernel_rfl) (by kernel_rfl) (by kernel_rfl)) ?_
  intro W base args ds gs before hval0 hW hcnd hsz0 _
  have hval : ∀ (j : Nat) t v, Tryz.f4.params[j]? = some t → args[j]? = some v → Value.okWide Tryz.prog W .any base t v := hval0
  have hsz : (DataW.weightsEach Tryz.prog (Tryz.f4.params.toList ++ Rows.bakerShiftsSpec.plain.varTypes Tryz.prog) (ds ++ gs)).all (· ≤ reachBytes) = true := hsz0
  have hW' := hW
  obtain ⟨p, q, hA0, hV, rfl, hfz, hnd⟩ := hW
  have hA : DataW.TrodAll enc Tryz.prog W 0 (fun _ => true) true Tryz.f4.params.toList args.toList ds p := hA0
  rw [Tryz.params4] at hA hval hsz
  obtain ⟨v0, vs0, d0, ds0, p0, q0, hargs, rfl, rfl, h0, r0⟩ := trodAll_cons hA
  obtain ⟨v1, vs1, d1, ds1, p1, q1, rfl, rfl, rfl, h1, r1⟩ := trodAll_cons r0
  obtain ⟨v2, vs2, d2, ds2, p2, q2, rfl, rfl, rfl, h2, r2⟩ := trodAll_cons r1
  obtain ⟨v3, vs3, d3, ds3, p3, q3, rfl, rfl, rfl, h3, r3⟩ := trodAll_cons r2
  obtain ⟨v4, vs4, d4, ds4, p4, q4, rfl, rfl, rfl, h4, r4⟩ := trodAll_cons r3
  obtain ⟨rfl, rfl, rfl⟩ := trodAll_nil r4
  obtain rfl : args = #[v0, v1, v2, v3, v4] := by cases args; simp_all
  obtain ⟨rfl, rfl⟩ := trodVars_none hV
  clear hA0 hval0 hsz0
  obtain ⟨k, rfl, rfl, rfl, wk⟩ := open_int Tryz.underlying3 (hval 2 3 v2 rfl rfl) h2
  obtain ⟨s, rfl, rfl, rfl, ws⟩ := open_int Tryz.underlying3 (hval 3 3 v3 rfl rfl) h3
  obtain ⟨m, rfl, rfl, rfl, wm⟩ := open_int Tryz.underlying3 (hval 4 3 v4 rfl rfl) h4
  simp only [List.append_nil] at hW'
  have hlt : ∀ x ∈ p0 ++ p1, x.block < W.heap.size := fun x hx => hW'.lt x (by simpa using hx)
  obtain ⟨n, sv, E, rfl, hE⟩ := graph24 (hval 0 24 v0 rfl rfl) h0
  obtain ⟨a1, l1, c1, rfl⟩ := okWide_slice Tryz.underlying25 (hval 1 25 v1 rfl rfl)
  obtain ⟨f1, g1⟩ := id h1
  obtain ⟨rss, hrss, hb⟩ := rows25 g1
  obtain ⟨hbl, hbr⟩ := rows_bound (weights_at hsz (j := 1) (t := 25) (d := d1) rfl rfl) hb
  refine (law_shifts (n := n) (k := k) (s := s) (m := m) hbl hbr hE hrss).mono fun e W' ⟨he, bel⟩ => ?_
  subst he
  refine ⟨_, rfl, _, _, _, [], p0 ++ (p1 ++ ([] ++ ([] ++ ([] ++ [])))), [], hW', trodAll_mk1 (shut_bool Tryz.underlying4 _), ?_, rfl, bel.frame _, fun h => by cases h⟩
  exact trodAll_cons_mk (Below.trod Tryz.laidOut (by kernel_rfl) (of_decide_eq_true (by kernel_rfl)) h0 bel (fun x hx => hlt x (by simp [hx])))
    (trodAll_cons_mk (Below.trod Tryz.laidOut (by kernel_rfl) (of_decide_eq_true (by kernel_rfl)) h1 bel (fun x hx => hlt x (by simp [hx])))
      (trodAll_cons_mk (shut_int Tryz.underlying3 wk) (trodAll_cons_mk (shut_int Tryz.underlying3 ws) (trodAll_cons_mk (shut_int Tryz.underlying3 wm) trodAll_mk0))))
theorem shifts_proved : Rows.BakerShiftsSaid :=
  OpenClaim.holds_of_wide 4 Tryz.f4 rfl rfl rfl rfl rfl rfl rfl ⟨rfl, rfl, rfl, rfl, rfl⟩ rfl rfl rfl rfl rfl (by kernel_rfl) Tryz.func4 (by kernel_rfl)
    (of_decide_eq_true (by kernel_rfl)) (by unfold Func.isWrapper; first|(rw [if_pos (by decide +kernel)]; kernel_rfl) | (rw [if_neg (by decide +kernel)]; exact ⟨rfl, rfl⟩))
    (fun os started H enc _ => shifts_lifted os started H enc)
end Go.Proofs.YtdmodppoellbkaaGreat
