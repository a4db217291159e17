/-
Range over functions, and the elimination.
-/
import Derived.Test.YtdmodppoellbkaaGreatM3
import Derived.RangeFuncRecord
import Derived.TacticsIn
set_option linter.unusedVariables false
set_option linter.unusedSimpArgs false
namespace Go.Proofs.YtdmodppoellbkaaGreat
open Go Go.RowKit
variable (U : Cx)
/-- The wide fence, in a round or in none. -/
def Fr (ro : Option Nat) : Fence := { Fence.wide with round := ro }
theorem Fr_none : Fr none = Fence.wide := rfl
theorem Fr_some (l : Nat) : Fr (some l) = Fence.wide.inRound l := rfl
theorem fr_room (ro : Option Nat) (k : Nat) : (Fr ro).room k := fun d h => by cases h
def Op.isDefer : Op → Bool | .defer _ => true | _ => false
theorem semAt_plain (ro : Option Nat) (ρ : Operand → Value) (o : Oper) (h : Op.isDefer o.op = false) : Oper.semAt ro ρ o = execOp ρ o := by
  cases ro with
  | none => rfl
  | some l =>
    refine Oper.semAt_some l ρ o fun c hc => ?_
    rw [hc] at h; cases h
theorem calls_fr {ro : Option Nat} {k : Nat} {f : FuncId} {args : Array Value} {w : World} {R : Ending → World → Prop} (h : Calls P f args w R) : CallsIn (Fr ro) k P f args w R := by
  have := (callsIn_wide (n := k)).2 h
  cases ro <;> exact this
theorem fr_calls {ro : Option Nat} {k : Nat} {f : FuncId} {args : Array Value} {w : World} {R : Ending → World → Prop} (h : CallsIn (Fr ro) k P f args w R) : Calls P f args w R := by
  refine (callsIn_wide (n := k)).1 ?_
  cases ro <;> exact h
theorem rows_fr {ro : Option Nat} {k : Nat} {row : String} {args : Array Value} {w : World} {R : Value → World → Prop} (h : Rows P row args w R) : RowsIn (Fr ro) k P row args w R := by
  intro c cs _
  obtain ⟨v, w', h1, h2⟩ := h c cs
  refine ⟨v, w', h1, ?_⟩
  have := stepsIn_wide.2 h2
  cases ro <;> exact this
theorem wp_fr {ro : Option Nat} {o : Oper} {a : Act} {w : World} {K : Act → World → Prop} {Q : Exit → Act → World → Prop} (hd : Op.isDefer o.op = false) (h : o.wp P a w K Q) : o.wpIn (Fr ro) 0 P a w K Q := by
  refine ⟨fun f _ => by cases ro <;> trivial, ?_⟩
  rw [semAt_plain _ _ _ hd]
  unfold Oper.wp at h
  revert h
  generalize (execOp a.eval o).run P w = r
  intro h
  cases r with
  | halt x w' =>
    cases x <;> first|exact h | exact h.elim
  | ok x w' =>
    cases x with
    | enter f args => exact ⟨(fun hh => by cases ro <;> cases hh), calls_fr (ro := ro) h⟩
    | row row args => exact ⟨(fun hh => by cases ro <;> cases hh), rows_fr (ro := ro) h⟩
    | _ => first|exact h | exact h.elim
structure SatD (ds : List Deferred) (n : Nat) (T : Tm) (H : Hp) (N : Nat) (a : Act) (w : World) : Prop where
  size : a.tmps.size = n
  tm : ∀ i, a.tmps.getD i undef = T i
  defers : a.defers = ds
  own : Own U H N w
theorem Sat.d {n : Nat} {T : Tm} {H : Hp} {N : Nat} {a : Act} {w : World} (h : Sat U n T H N a w) : SatD U [] n T H N a w := ⟨h.size, h.tm, h.defers, h.own⟩
theorem SatD.s {n : Nat} {T : Tm} {H : Hp} {N : Nat} {a : Act} {w : World} (h : SatD U [] n T H N a w) : Sat U n T H N a w := ⟨h.size, h.tm, h.defers, h.own⟩
theorem SatD.eval {ds : List Deferred} {n : Nat} {T : Tm} {H : Hp} {N : Nat} {a : Act} {w : World} (h : SatD U ds n T H N a w) (x : Operand) : a.eval x = ev T x := by
  cases x <;> simp only [Act.eval, ev]
  exact h.tm _
theorem SatD.put {ds : List Deferred} {n : Nat} {T : Tm} {H H' : Hp} {N N' : Nat} {a : Act} {w w' : World} (h : SatD U ds n T H N a w) {d : Option Tmp} (hd : dstOk n d = true) (v : Value) (ho : Own U H' N' w') :
    SatD U ds n (putT T d v) H' N' (a.put d v) w' := by
  have h0 : Sat U n T H N { a with defers := [] } w := ⟨h.size, h.tm, rfl, h.own⟩
  have h1 := h0.put U hd v ho
  cases d with
  | none => exact ⟨h1.size, h1.tm, h.defers, h1.own⟩
  | some d => exact ⟨h1.size, h1.tm, h.defers, h1.own⟩
theorem SatD.yielded {ds : List Deferred} {n : Nat} {T : Tm} {H : Hp} {N : Nat} {a : Act} {w : World} (h : SatD U ds n T H N a w) (ops : Array Oper) : yielded ops a.tmps = yieldedT ops T :=
  Sat.yielded U (a := { a with defers := [] }) ⟨h.size, h.tm, rfl, h.own⟩ ops
abbrev PostD := List Deferred → Post
def liftD (n : Nat) (Q : PostD) : Exit → Act → World → Prop
  | .panic _, _, _ => False
  | .outgrown, _, _ => False
  | e, a, w => ∃ ds T H N, SatD U ds n T H N a w ∧ Q ds e T H N
def WI (ro : Option Nat) (ds : List Deferred) (n : Nat) (c : Code) (T : Tm) (H : Hp) (N : Nat) (Q : PostD) : Prop := ∀ a w, SatD U ds n T H N a w → c.wpIn (Fr ro) 0 P (liftD U n Q) a w
theorem liftD_mono {n : Nat} {Q Q' : PostD} (h : ∀ ds e T H N, Q ds e T H N → Q' ds e T H N) : ∀ e a w, liftD U n Q e a w → liftD U n Q' e a w := by
  intro e a w hq
  cases e <;> simp only [liftD] at hq ⊢ <;> first
    | exact hq
    | (obtain ⟨ds, T, H, N, hs, hq⟩ := hq; exact ⟨ds, T, H, N, hs, h _ _ _ _ _ hq⟩)
variable {ro : Option Nat} {ds : List Deferred} {n : Nat} {T : Tm} {H : Hp} {N : Nat} {Q : PostD}
theorem WI.mono {c : Code} {Q' : PostD} (hw : WI U ro ds n c T H N Q) (h : ∀ ds e T H N, Q ds e T H N → Q' ds e T H N) : WI U ro ds n c T H N Q' :=
  fun a w hs => wpIn_mono (hw a w hs) (liftD_mono U h)
theorem wi_of_wc {c : Code} {Q0 : Post} (h : WC U n c T H N Q0) (hq : ∀ e T H N, Q0 e T H N → Q [] e T H N) : WI U none [] n c T H N Q := by
  intro a w hs
  refine wpIn_wide.2 (wp_mono (h a w (hs.s U)) ?_)
  intro e a' w' h'
  cases e <;> simp only [lift, liftD] at h' ⊢ <;> first
    | exact h'
    | (obtain ⟨T, H, N, hs, h'⟩ := h'; exact ⟨[], T, H, N, hs.d U, hq _ _ _ _ h'⟩)
def andThenD (K : List Deferred → Tm → Hp → Nat → Prop) (Q : PostD) : PostD
  | ds, .normal, T, H, N => K ds T H N
  | ds, e, T, H, N => Q ds e T H N
def inBlockD (id : Nat) (Q : PostD) : PostD
  | ds, .exit id', T, H, N => if id' = id then Q ds .normal T H N else Q ds (.exit id') T H N
  | ds, e, T, H, N => Q ds e T H N
theorem ntD {K : List Deferred → Tm → Hp → Nat → Prop} (h : K ds T H N) : andThenD K Q ds .normal T H N := h
theorem nqD {id : Nat} (h : Q ds .normal T H N) : inBlockD id Q ds .normal T H N := h
theorem exit_thenD {K : List Deferred → Tm → Hp → Nat → Prop} {id : Nat} (h : Q ds (.exit id) T H N) : andThenD K Q ds (.exit id) T H N := h
theorem exit_blockD {id : Nat} (h : Q ds .normal T H N) : inBlockD id Q ds (.exit id) T H N := by simp only [inBlockD, if_true]; exact h
theorem exit_pastD {id id' : Nat} (hne : id' ≠ id) (h : Q ds (.exit id') T H N) : inBlockD id Q ds (.exit id') T H N := by simp only [inBlockD, if_neg hne]; exact h
theorem ret_thenD {K : List Deferred → Tm → Hp → Nat → Prop} (h : Q ds .ret T H N) : andThenD K Q ds .ret T H N := h
theorem ret_blockD {id : Nat} (h : Q ds .ret T H N) : inBlockD id Q ds .ret T H N := h
theorem wi_seq {x y : Code} (h : WI U ro ds n x T H N (andThenD (fun ds T H N => WI U ro ds n y T H N Q) Q)) : WI U ro ds n (.seq x y) T H N Q := by
  intro a w hs
  refine wpIn_seq (wpIn_mono (h a w hs) ?_)
  intro e a' w' hq
  cases e <;> simp only [liftD, Exit.then, andThenD] at hq ⊢ <;> first
    | exact hq
    | (obtain ⟨ds, T, H, N, hs, hq⟩ := hq; exact hq a' w' hs)
/-- Ahead of the loop: the first part by the other logic. -/
theorem wi_seq_wc {x y : Code} (h : WC U n x T H N (andThen (fun T H N => WI U none [] n y T H N Q) (fun e T H N => Q [] e T H N))) : WI U none [] n (.seq x y) T H N Q := by
  refine wi_seq U (wi_of_wc U h fun e T H N hq => ?_)
  cases e <;> exact hq
theorem wi_cond {c : Operand} {x y : Code} {t : Bool} (hc : ev T c = .bool t) (ht : t = true → WI U ro ds n x T H N Q) (hf : t = false → WI U ro ds n y T H N Q) : WI U ro ds n (.cond c x y) T H N Q := by
  intro a w hs
  exact wpIn_cond_split (t := t) (by rw [hs.eval]; exact hc) (fun h => ht h a w hs) (fun h => hf h a w hs)
theorem wi_block {id : Nat} {c : Code} (h : WI U ro ds n c T H N (inBlockD id Q)) : WI U ro ds n (.block id c) T H N Q := by
  intro a w hs
  refine wpIn_block (wpIn_mono (h a w hs) ?_)
  intro e a' w' hq
  cases e with
  | exit id' =>
    simp only [liftD, inBlockD, Exit.inBlock] at hq ⊢
    obtain ⟨ds, T, H, N, hs, hq⟩ := hq
    split
    · rename_i hid
      rw [if_pos hid] at hq
      exact ⟨ds, T, H, N, hs, hq⟩
    · rename_i hid
      rw [if_neg hid] at hq
      exact ⟨ds, T, H, N, hs, hq⟩
  | _ => exact hq
theorem wpIn_loop_ghost {F : Fence} {k : Nat} {Q : Exit → Act → World → Prop} {a : Act} {w : World} {c : Code} (I : Nat → Act → World → Prop) (n₀ : Nat) (h₀ : I n₀ a w)
    (round : ∀ n a w, I n a w → c.wpIn F k P (Exit.then (fun a' w' => ∃ n', n' < n ∧ I n' a' w') Q) a w) : (Code.loop c).wpIn F k P Q a w := by
  refine wpIn_loop (fun a w => ∃ n, I n a w) (fun a w => leastOf (fun n => I n a w)) ⟨n₀, h₀⟩ ?_
  intro a w hI
  refine wpIn_mono (round _ a w (leastOf_spec hI).1) ?_
  intro e a' w' hq
  cases e with
  | normal =>
    obtain ⟨n', hlt, hI'⟩ := hq
    exact show (∃ n, I n a' w') ∧ leastOf (fun n => I n a' w') < leastOf (fun n => I n a w) from ⟨⟨n', hI'⟩, Nat.lt_of_le_of_lt ((leastOf_spec ⟨n', hI'⟩).2 n' hI') hlt⟩
  | exit id => exact hq
  | goto l => exact hq
  | ret => exact hq
  | panic ch => exact hq
  | outgrown => exact hq
theorem wi_loop {c : Code} (I : Nat → Tm → Hp → Nat → Prop) (m : Nat) (h0 : I m T H N)
    (round : ∀ m T H N, I m T H N → WI U ro ds n c T H N (andThenD (fun ds' T H N => ds' = ds ∧ ∃ m', m' < m ∧ I m' T H N) Q)) : WI U ro ds n (.loop c) T H N Q := by
  intro a w hs
  refine wpIn_loop_ghost (fun m a w => ∃ T H N, SatD U ds n T H N a w ∧ I m T H N) m ⟨T, H, N, hs, h0⟩ ?_
  rintro m a w ⟨T, H, N, hs, hI⟩
  refine wpIn_mono (round m T H N hI a w hs) ?_
  intro e a' w' hq
  cases e <;> simp only [liftD, Exit.then, andThenD] at hq ⊢ <;> first
    | exact hq
    | (obtain ⟨ds', T, H, N, hs', hds, m', hm, hq⟩ := hq; exact ⟨m', hm, T, H, N, hds ▸ hs', hq⟩)
theorem wi_skip (h : Q ds .normal T H N) : WI U ro ds n .skip T H N Q := fun _ _ hs => wpIn_skip ⟨ds, T, H, N, hs, h⟩
theorem wi_ret (h : Q ds .ret T H N) : WI U ro ds n .ret T H N Q := fun _ _ hs => wpIn_ret ⟨ds, T, H, N, hs, h⟩
theorem wi_exit {id : Nat} (h : Q ds (.exit id) T H N) : WI U ro ds n (.exit id) T H N Q := fun _ _ hs => wpIn_exit ⟨ds, T, H, N, hs, h⟩
theorem wi_own {c : Code} (h : U.B ≤ N → (∀ b o, H b = some o → U.B ≤ b ∧ b < N) → WI U ro ds n c T H N Q) : WI U ro ds n c T H N Q :=
  fun a w hs => h hs.own.hBN (fun b o e => ⟨(hs.own.blk b o e).1, hs.own.lt b o e⟩) a w hs
/-! ### Operations -/
def OpI (ro : Option Nat) (o : Oper) (T : Tm) (H : Hp) (N : Nat) (K : Value → Hp → Nat → Prop) : Prop :=
  ∀ (a : Act) (w : World), (∀ x, a.eval x = ev T x) → Own U H N w → ∀ (K' : Act → World → Prop) (Q0 : Exit → Act → World → Prop),
    (∀ v H' N' w', K v H' N' → Own U H' N' w' → K' (a.put o.dst v) w') → o.wpIn (Fr ro) 0 P a w K' Q0
theorem OpW.opi {o : Oper} {K : Value → Hp → Nat → Prop} (h : OpW U o T H N K) (hd : Op.isDefer o.op = false) : OpI U ro o T H N K :=
  fun a w he ho K' Q0 hK => wp_fr hd (h a w he ho K' Q0 hK)
def WLI (ro : Option Nat) (ds : List Deferred) (n : Nat) (ops : Array Oper) (l : List Oper) (T : Tm) (H : Hp) (N : Nat) (Q : PostD) : Prop := ∀ a w, SatD U ds n T H N a w → wpListIn (Fr ro) 0 P ops (liftD U n Q) l a w
theorem wli_nil {ops : Array Oper} (h : Q ds .normal T H N) : WLI U ro ds n ops [] T H N Q := fun _ _ hs => wpListIn_nil ⟨ds, T, H, N, hs, h⟩
theorem wli_step {ops : Array Oper} {o : Oper} {l : List Oper} (hw : Region.wanted o (yieldedT ops T) = true) (hd : dstOk n o.dst = true)
    (h : OpI U ro o T H N fun v H' N' => WLI U ro ds n ops l (putT T o.dst v) H' N' Q) : WLI U ro ds n ops (o :: l) T H N Q := by
  intro a w hs
  refine wpListIn_step fun K hK => ?_
  rw [hs.yielded, hw, if_pos rfl]
  exact h a w (hs.eval U) hs.own K _ fun v H' N' w' hk ho => hK _ _ (hk _ _ (hs.put U hd v ho))
theorem wi_region {id : Nat} {l : List Oper} (h : WLI U ro ds n l.toArray l T H N Q) : WI U ro ds n (.region id l.toArray false) T H N Q := fun a w hs => wpIn_region_lit (h a w hs)
section
variable {ops : Array Oper} {l : List Oper} {d : Tmp} {op : Op} {ty : TypeId} {pos : String} {after : Array Edge} {guard : Option (Nat × Bool)}
theorem wli_rd {v : Value} (h : Rd U ⟨some d, op, ty, pos, after, guard⟩ T H v) (hw : Region.wanted ⟨some d, op, ty, pos, after, guard⟩ (yieldedT ops T) = true) (hd : decide (d < n) = true)
    (hk : WLI U ro ds n ops l (upd T d v) H N Q) (hnd : Op.isDefer op = false := by rfl) : WLI U ro ds n ops (⟨some d, op, ty, pos, after, guard⟩ :: l) T H N Q :=
  wli_step U hw hd ((h.opw U (K := fun v H' N' => WLI U ro ds n ops l (upd T d v) H' N' Q) hk).opi U hnd)
theorem wli_op (hw : Region.wanted ⟨some d, op, ty, pos, after, guard⟩ (yieldedT ops T) = true) (hd : decide (d < n) = true)
    (h : OpW U ⟨some d, op, ty, pos, after, guard⟩ T H N fun v H' N' => WLI U ro ds n ops l (upd T d v) H' N' Q) (hnd : Op.isDefer op = false := by rfl) : WLI U ro ds n ops (⟨some d, op, ty, pos, after, guard⟩ :: l) T H N Q := wli_step U hw hd (h.opi U hnd)
theorem wli_opi (hw : Region.wanted ⟨some d, op, ty, pos, after, guard⟩ (yieldedT ops T) = true) (hd : decide (d < n) = true)
    (h : OpI U ro ⟨some d, op, ty, pos, after, guard⟩ T H N fun v H' N' => WLI U ro ds n ops l (upd T d v) H' N' Q) : WLI U ro ds n ops (⟨some d, op, ty, pos, after, guard⟩ :: l) T H N Q := wli_step U hw hd h
theorem wli_op0 (hw : Region.wanted ⟨none, op, ty, pos, after, guard⟩ (yieldedT ops T) = true)
    (h : OpW U ⟨none, op, ty, pos, after, guard⟩ T H N fun _ H' N' => WLI U ro ds n ops l T H' N' Q) (hnd : Op.isDefer op = false := by rfl) : WLI U ro ds n ops (⟨none, op, ty, pos, after, guard⟩ :: l) T H N Q := wli_step U hw rfl (h.opi U hnd)
end
/-! ### Rounds -/
/-- What a call of 'yield' comes to. -/
def YieldOk (l : Nat) (args : Array Value) (H : Hp) (N : Nat) (K : Value → Hp → Nat → Prop) : Prop :=
  ∀ w, Own U H N w → ∃ fn tmps assign body, (Instr.yield l args).run P w = .ok (.round l fn tmps assign body) w ∧
    RoundIn (Fr none) 0 P l fn tmps assign body w fun e w' => ∃ v H' N', e = .returned v ∧ Own U H' N' w' ∧ K v H' N'
theorem op_yield {dst : Option Tmp} {ty : TypeId} {pos : String} {after : Array Edge} {guard : Option (Nat × Bool)} {x : Operand} {xs : Array Operand} {ats : Array TypeId} {l : Nat} {args : Array Value}
    {K : Value → Hp → Nat → Prop} (hx : ev T x = .func (.yield l) #[] #[]) (hargs : xs.toList.map (ev T) = args.toList) (h : YieldOk U l args H N K) : OpI U none ⟨dst, .call ⟨.value x, xs, ats⟩, ty, pos, after, guard⟩ T H N K := by
  intro a w he ho K' Q0 hK
  have hm : xs.map a.eval = args := by
    rw [Array.map_congr_left fun x _ => he x]; apply Array.ext'; simpa using hargs
  obtain ⟨fn, tmps, assign, body, hy, hR⟩ := h w ho
  have hrun : (execOp a.eval ⟨dst, .call ⟨.value x, xs, ats⟩, ty, pos, after, guard⟩).run P w = .ok (.round l fn tmps assign body) w := by
    simp only [execOp, resolve, Deferred.ofValue, he, hx, hm]
    simp [invoke, hy]
  refine ⟨fun f _ => trivial, ?_⟩
  rw [semAt_plain _ _ _ rfl, hrun]
  refine ⟨(fun hh => by cases hh), hR.mono ?_⟩
  rintro e w' ⟨v, H', N', rfl, ho', hk⟩
  exact hK v H' N' w' hk ho'
/-- The loop's record. -/
def lpO (fn : FuncId) (tm : Array Value) (ps : Array Tmp) (assign body : Code) (D : Nat) (st : LoopState) : Obj := .loop { state := st, pending := none, fn := fn, tmps := tm, params := ps, assign := assign, body := body, defers := D }
def setPs (T : Tm) : List (Nat × Value) → Tm
  | [] => T
  | (i, v) :: l => setPs (upd T i v) l
theorem setPs_arr : ∀ (l : List (Nat × Value)) (tm : Array Value) (T : Tm), (∀ i, tm.getD i undef = T i) → (∀ p ∈ l, p.1 < tm.size) →
    (l.foldl (fun tm (p : Nat × Value) => tm.setIfInBounds p.1 p.2) tm).size = tm.size ∧ ∀ i, (l.foldl (fun tm (p : Nat × Value) => tm.setIfInBounds p.1 p.2) tm).getD i undef = setPs T l i
  | [], tm, T, h, _ => ⟨rfl, h⟩
  | (j, v) :: l, tm, T, h, hl => by
    have := setPs_arr l (tm.setIfInBounds j v) (upd T j v) (fun i => by
      have hj := hl (j, v) (by simp)
      unfold upd
      by_cases hij : i = j
      · subst hij; simp [Array.getD_eq_getD_getElem?, hj]
      · rw [if_neg hij, ← h i]; simp [Array.getD_eq_getD_getElem?, Ne.symm hij]) (fun p hp => by simpa using hl p (by simp [hp]))
    refine ⟨by rw [List.foldl_cons, this.1]; simp, fun i => ?_⟩
    rw [List.foldl_cons]; exact this.2 i
theorem Own.turnObj {w : World} (h : Own U H N w) {c : Nat} {o : Obj} (hc : H c = some (.obj o)) (o' : Obj) : Own U (hset H c (.obj o')) N (w.putObj c o') := by
  have hcN := h.lt c _ hc
  have hcs : c < w.heap.size := by rw [h.size]; exact hcN
  have ho : w.heap[c]? = some o := (h.blk c _ hc).2
  refine h.turn U hc (World.putObj_heap_same hcs) rfl ?_ ?_ ?_ ?_ ?_ ?_
  all_goals first|rfl | (simp [World.putObj]; done) | (intro k hk; exact World.putObj_heap_other hk) | (intro es it left cur e; cases e) | skip
theorem zip_fold (ps : Array Tmp) (args : Array Value) (tm : Array Value) : (ps.zip args).foldl (fun tmps (t, a) => tmps.setIfInBounds t a) tm = (ps.toList.zip args.toList).foldl (fun tm (p : Nat × Value) => tm.setIfInBounds p.1 p.2) tm := by
  rw [← Array.foldl_toList, Array.toList_zip]
variable {l : Nat} {fn : FuncId} {tm : Array Value} {ps : Array Tmp} {assign body : Code} {D : Nat}
theorem round_ok {args : Array Value} {K : Value → Hp → Nat → Prop} (hl : H l = some (.obj (lpO fn tm ps assign body D .ready))) (hsz : tm.size = n) (htm : ∀ i, tm.getD i undef = T i)
    (hps : args.size = ps.size) (hlt : ∀ p ∈ ps.toList, p < n)
    (h : WI U (some l) [] n assign (setPs T (ps.toList.zip args.toList)) H N fun ds e T' H' N' => e = .normal ∧ ds = [] ∧ H' l = some (.obj (lpO fn tm ps assign body D .ready)) ∧
      WI U (some l) [] n body T' (hset H' l (.obj (lpO fn tm ps assign body D .busy))) N' fun ds e T H N => e = .normal ∧ H l = some (.obj (lpO fn tm ps assign body D .busy)) ∧ K (.bool true) (hset H l (.obj (lpO fn tm ps assign body D .ready))) N) :
    YieldOk U l args H N K := by
  intro w ho
  have hw : w.heap[l]? = some (lpO fn tm ps assign body D .ready) := (ho.blk l _ hl).2
  have harr := setPs_arr (ps.toList.zip args.toList) tm T htm (fun p hp => by rw [hsz]; exact hlt _ (List.of_mem_zip hp).1)
  refine ⟨fn, _, assign, body, run_yield hw hps, ?_⟩
  refine roundIn_of_wpIn (F := Fr none) trivial ?_
  refine wpIn_mono (h _ w ⟨?_, ?_, rfl, ho⟩) ?_
  · show Array.size _ = n
    rw [zip_fold]; exact harr.1.trans hsz
  · intro i
    show Array.getD _ i undef = _
    rw [zip_fold]; exact harr.2 i
  · intro e a w1 hq
    cases e <;> simp only [liftD] at hq
    case normal =>
      obtain ⟨ds, T', H', N', hs, _, rfl, hl', hb⟩ := hq
      have hw1 : w1.heap[l]? = some (lpO fn tm ps assign body D .ready) := (hs.own.blk l _ hl').2
      refine ⟨_, run_beginRound hw1 rfl, ?_⟩
      refine wpIn_mono (hb a _ ⟨hs.size, hs.tm, hs.defers, hs.own.turnObj U hl' _⟩) ?_
      intro e a2 w2 hq2
      cases e <;> simp only [liftD] at hq2
      case normal =>
        obtain ⟨ds2, T2, H2, N2, hs2, _, hl2, hk⟩ := hq2
        have hw2 : w2.heap[l]? = some (lpO fn tm ps assign body D .busy) := (hs2.own.blk l _ hl2).2
        exact ⟨_, _, run_endRound none hw2, _, _, _, rfl, hs2.own.turnObj U hl2 _, hk⟩
      all_goals (obtain ⟨ds2, T2, H2, N2, hs2, he, _⟩ := hq2; cases he)
    all_goals (obtain ⟨ds, T', H', N', hs, he, _⟩ := hq; cases he)
def markD (r : Nat) : Deferred := { target := .collected r, args := #[] }
theorem wi_rangeFunc {g : Operand} {f : FuncId} {cap args : Array Value} (fnr : Func) (hg : ev T g = .func (.func f) #[] cap) (ha : #[.func (.yield (N + 1)) #[] #[]] ++ cap = args) (hf : P.funcs[f]? = some fnr) (hnm : (fnr.name == "runtime.NumGoroutine") = false) (hb : fnr.body.isNone = false)
    (hlt : ∀ p ∈ ps.toList, p < n)
    (h : ∀ R : LoopState → Blk, (∀ {args : Array Value} {H2 : Hp} {N2 : Nat} {K : Value → Hp → Nat → Prop}, H2 (N + 1) = some (R .ready) → args.size = ps.size →
        (WI U (some (N + 1)) [] n assign (setPs T (ps.toList.zip args.toList)) H2 N2 fun ds e T' H' N' => e = .normal ∧ ds = [] ∧ H' (N + 1) = some (R .ready) ∧
          WI U (some (N + 1)) [] n body T' (hset H' (N + 1) (R .busy)) N' fun ds e T H N' => e = .normal ∧ H (N + 1) = some (R .busy) ∧ K (.bool true) (hset H (N + 1) (R .ready)) N') → YieldOk U (N + 1) args H2 N2 K) →
      Spec U f args (hset (hset H N (.obj (.deferred (some [])))) (N + 1) (R .ready)) (N + 2) fun _ H' N' =>
        H' (N + 1) = some (R .ready) ∧ Q [markD N] .normal T (hset H' (N + 1) (R .exhausted)) N') :
    WI U none [] n (.rangeFunc g ps assign body) T H N Q := by
  subst ha
  intro a w hs
  refine wpIn_rangeFunc fun fn _ => ?_
  have hsz := hs.own.size
  refine ⟨w.heap.size + 1, _, _, { target := .fn (.func f) cap, args := #[.func (.yield (w.heap.size + 1)) #[] #[]] }, ((w.alloc (.deferred (some []))).alloc (lpO fn a.tmps ps assign body w.heap.size .ready)), f, #[.func (.yield (w.heap.size + 1)) #[] #[]] ++ cap, ((w.alloc (.deferred (some []))).alloc (lpO fn a.tmps ps assign body w.heap.size .ready)), run_enterLoop_outer fn a.tmps ps assign body, ?_, fun _ _ => trivial, ?_, (fun hh => by cases hh), calls_fr (ro := none) ?_⟩
  · have he : a.eval g = .func (.func f) #[] cap := by rw [hs.eval]; exact hg
    simp only [resolve, he, Deferred.ofValue]
    simp [Act.eval, lpO]
  · simp [invoke, callFunc, hf]
    rw [if_neg (fun h => by rw [h] at hnm; simp at hnm), if_neg (fun h => by rw [h] at hb; simp at hb)]
  · have ho1 := hs.own.alloc U (.deferred (some [])) (o := .obj (.deferred (some []))) (by rw [← hsz]; exact World.alloc_heap_new w _) rfl
    have ho2 := ho1.alloc U (lpO fn a.tmps ps assign body N .ready) (o := .obj (lpO fn a.tmps ps assign body N .ready)) (by have := World.alloc_heap_new (w.alloc (.deferred (some []))) (lpO fn a.tmps ps assign body N .ready); rw [World.size_alloc, hsz] at this; exact this) rfl
    rw [hsz]
    refine (h (fun st => .obj (lpO fn a.tmps ps assign body N st)) (fun h1 h2 h3 => round_ok U h1 hs.size hs.tm h2 hlt h3) _ ho2).mono ?_
    rintro e w' ⟨v, H', N', rfl, ho', hl', hq⟩
    have hw' : w'.heap[N + 1]? = some (lpO fn a.tmps ps assign body N .ready) := (ho'.blk _ _ hl').2
    refine ⟨none, _, run_endLoop hw' (by simp [lpO]), ?_⟩
    refine ⟨[markD N], T, _, N', ⟨hs.size, hs.tm, ?_, ho'.turnObj U hl' _⟩, hq⟩
    simp [hs.defers, markD]
theorem spec_marks {m : Nat} {f : FuncId} {fn : Func} {c : Code} {args : Array Value} {K : Value → Hp → Nat → Prop} (hf : P.funcs[f]? = some fn) (hm : fn.ntmps = m) (hb : fn.body = some c) (hn : args.size ≤ m)
    (h : U.B ≤ N → (∀ b o, H b = some o → U.B ≤ b ∧ b < N) → WI U none [] m c (argsT args) H N fun ds e T H N => (e = .normal ∨ e = .ret) ∧ ∃ r, ds = [markD r] ∧ H r = some (.obj (.deferred (some []))) ∧
      ∃ v, (∀ (a : Act) (w : World), (∀ i, a.tmps.getD i undef = T i) → Own U (hset H r (.obj (.deferred none))) N w → (results fn a.tmps).run P w = .ok v w) ∧ K v (hset H r (.obj (.deferred none))) N) :
    Spec U f args H N K := by
  subst hm
  intro w ho
  refine fr_calls (ro := none) (k := 0) (callsIn_of_wp_marks hf hb trivial ?_ rfl)
  refine wpIn_mono (h ho.hBN (fun b o e => ⟨(ho.blk b o e).1, ho.lt b o e⟩) _ w ⟨?_, ?_, rfl, ho⟩) ?_
  · simp; omega
  · intro i
    simp only [argsT, Array.getD_eq_getD_getElem?, Array.getElem?_append]
    split
    · rfl
    · rename_i hi
      rw [Array.getElem?_replicate]
      have : args[i]? = none := Array.getElem?_eq_none (by omega)
      rw [this]
      split <;> rfl
  · intro e a w' hq
    cases e <;> simp only [liftD, bodyPostM] at hq ⊢
    case normal =>
      obtain ⟨ds, T, H', N', hs, _, r, rfl, hr, v, hv, hk⟩ := hq
      have hw : w'.heap[r]? = some (.deferred (some [])) := (hs.own.blk r _ hr).2
      have ho' := hs.own.turnObj U hr (.deferred none)
      rw [hs.defers]
      exact ⟨by simp, .inl ⟨r, _, rfl, run_takeDeferred hw, v, hv a _ hs.tm ho', v, _, _, rfl, ho', hk⟩⟩
    case ret =>
      obtain ⟨ds, T, H', N', hs, _, r, rfl, hr, v, hv, hk⟩ := hq
      have hw : w'.heap[r]? = some (.deferred (some [])) := (hs.own.blk r _ hr).2
      have ho' := hs.own.turnObj U hr (.deferred none)
      rw [hs.defers]
      exact ⟨by simp, .inl ⟨r, _, rfl, run_takeDeferred hw, v, hv a _ hs.tm ho', v, _, _, rfl, ho', hk⟩⟩
    all_goals first
      | exact hq
      | (obtain ⟨ds, T, H', N', hs, he, _⟩ := hq; rcases he with he | he <;> cases he)
/-- An iterator's contract from its body. -/
theorem spec_iter {m : Nat} {f : FuncId} {fn : Func} {c : Code} {args : Array Value} {K : Value → Hp → Nat → Prop} (hf : P.funcs[f]? = some fn) (hm : fn.ntmps = m) (hb : fn.body = some c) (hn : args.size ≤ m)
    (h : U.B ≤ N → (∀ b o, H b = some o → U.B ≤ b ∧ b < N) → WI U none [] m c (argsT args) H N fun ds e T H N => (e = .normal ∨ e = .ret) ∧ ds = [] ∧
      ∃ v, (∀ (a : Act) (w : World), (∀ i, a.tmps.getD i undef = T i) → Own U H N w → (results fn a.tmps).run P w = .ok v w) ∧ K v H N) :
    Spec U f args H N K := by
  subst hm
  intro w ho
  refine fr_calls (ro := none) (k := 0) (callsIn_of_wp_marks hf hb trivial ?_ rfl)
  refine wpIn_mono (h ho.hBN (fun b o e => ⟨(ho.blk b o e).1, ho.lt b o e⟩) _ w ⟨?_, ?_, rfl, ho⟩) ?_
  · simp; omega
  · intro i
    simp only [argsT, Array.getD_eq_getD_getElem?, Array.getElem?_append]
    split
    · rfl
    · rename_i hi
      rw [Array.getElem?_replicate]
      have : args[i]? = none := Array.getElem?_eq_none (by omega)
      rw [this]
      split <;> rfl
  · intro e a w' hq
    cases e <;> simp only [liftD, bodyPostM] at hq ⊢
    case normal =>
      obtain ⟨ds, T, H', N', hs, _, rfl, v, hv, hk⟩ := hq
      rw [hs.defers]
      exact ⟨v, hv a _ hs.tm hs.own, v, _, _, rfl, hs.own, hk⟩
    case ret =>
      obtain ⟨ds, T, H', N', hs, _, rfl, v, hv, hk⟩ := hq
      rw [hs.defers]
      exact ⟨v, hv a _ hs.tm hs.own, v, _, _, rfl, hs.own, hk⟩
    all_goals first
      | exact hq
      | (obtain ⟨ds, T, H', N', hs, he, _⟩ := hq; rcases he with he | he <;> cases he)
end Go.Proofs.YtdmodppoellbkaaGreat
namespace Go.Proofs.YtdmodppoellbkaaGreat
open Go Go.RowKit
variable (U : Cx)
theorem iend0 {fn : Func} {T : Tm} {H : Hp} {N : Nat} {K : Value → Hp → Nat → Prop} {e : Exit} (he : e = .normal ∨ e = .ret) (hf : fn.results = #[]) (hk : K (.tuple #[]) H N) :
    (e = .normal ∨ e = .ret) ∧ ([] : List Deferred) = [] ∧ ∃ v, (∀ (a : Act) (w : World), (∀ i, a.tmps.getD i undef = T i) → Own U H N w → (results fn a.tmps).run P w = .ok v w) ∧ K v H N :=
  ⟨he, rfl, _, fun a w _ _ => by simp [results, hf], hk⟩
theorem mres1 {fn : Func} {T : Tm} {H : Hp} {N : Nat} {t : Nat} {v : Value} (hf : fn.results = #[.tmp t]) (hv : T t = v) : ∀ (a : Act) (w : World), (∀ i, a.tmps.getD i undef = T i) → Own U H N w → (results fn a.tmps).run P w = .ok v w := fun a w h _ => by
  have h1 := h t
  rw [hv] at h1
  simpa [results, hf] using h1
theorem oneS0 {v : Value} {H : Hp} {e sz : Nat} {cs : List Value} (h : IsSl H v e sz cs) : v.cells.toList = [v] ∧ v.oneCell' = true := by
  rcases h with ⟨rfl, _⟩ | ⟨b, off, k, cap, tot, rfl, _⟩ <;> exact ⟨rfl, rfl⟩
theorem wi_has {ro : Option Nat} {ds : List Deferred} {n : Nat} {T : Tm} {H : Hp} {N : Nat} {c : Code} {Q : PostD} {l : List (Nat × Value)} (h : Has T l) (k : ∀ J, WI U ro ds n c (setTs J l) H N Q) : WI U ro ds n c T H N Q := by
  obtain ⟨J, rfl⟩ := h.ex; exact k J
theorem wi_gen {ro : Option Nat} {ds : List Deferred} {n : Nat} {T : Tm} {H : Hp} {N : Nat} {c : Code} {Q : PostD} (p : Hp → Prop) (h : p H) (k : ∀ H1, p H1 → U.B ≤ N → (∀ b o, H1 b = some o → U.B ≤ b ∧ b < N) → WI U ro ds n c T H1 N Q) : WI U ro ds n c T H N Q :=
  fun a w hs => k H h hs.own.hBN (fun b o e => ⟨(hs.own.blk b o e).1, hs.own.lt b o e⟩) a w hs
theorem andThenD_mono {K : List Deferred → Tm → Hp → Nat → Prop} {Q Q' : PostD} {ds : List Deferred} {e : Exit} {T : Tm} {H : Hp} {N : Nat} (h : andThenD K Q ds e T H N) (hq : Q ds e T H N → Q' ds e T H N) : andThenD K Q' ds e T H N := by
  cases e <;> first|exact h | exact hq h
theorem s113 (l b : Nat) (sv : Value) (xs : List Nat) (hl : xs.length ≤ 100000) (J : Nat → Hp → Nat → Prop) (hJ : ∀ k H N, J k H N → H b = some (.row 26 0 [sv] 1) ∧ RdS U H sv 1 (nats xs)) (hY : ∀ (k : Nat) (hk : k < xs.length) (H : Hp) (N : Nat), J k H N → YieldOk U l #[.int .i64 ((xs[k] : Nat) : Int)] H N (fun v H' N' => v = .bool true ∧ J (k + 1) H' N')) (H : Hp) (N : Nat) (h0 : J 0 H N) : Spec U 113 #[(.func (.yield l) #[] #[]), (.pointer (some ⟨b, 0, none⟩))] H N (fun v H' N' => J xs.length H' N') := by
  obtain ⟨hb0, hv0⟩ := hJ 0 H N h0
  obtain ⟨p, cap, rfl, hc, hp⟩ := hv0.nums U
  refine spec_iter U pf_113 (m := 16) rfl rfl (by simp) fun hBN hlt => ?_
  obtain ⟨JJ, hJJ⟩ := Has.ex (T := argsT #[(.func (.yield l) #[] #[]), (.pointer (some ⟨b, 0, none⟩))]) (l := [(0, (.func (.yield l) #[] #[])), (1, (.pointer (some ⟨b, 0, none⟩)))]) ⟨rfl, rfl, trivial⟩
  rw [hJJ]; clear hJJ
  have hbB := (hlt _ _ hb0).1
  repeat (first|refine ntD ?_|refine nqD ?_|refine wi_seq U ?_)
  refine wi_region U ?_
  refine wli_rd U (rl1 U el_26 rfl (v := (.slice p xs.length cap)) (by rw [rrw U (by omega) hb0]; rfl)) rfl rfl ?_
  refine wli_rd U ((rd_len' U sl_26 rfl).to (v' := (.int .i64 ((xs.length : Nat) : Int))) rfl) rfl rfl ?_
  refine wli_rd U ((rm U).to (v' := (.int .i64 0)) rfl) rfl rfl ?_
  refine wli_nil U ?_
  repeat (first|refine ntD ?_|refine nqD ?_|refine wi_seq U ?_)
  refine wi_block U ?_
  refine wi_loop U (fun m T H' N' => ∃ (k : Nat), k ≤ xs.length ∧ m = xs.length - k ∧ Has T [(0, (.func (.yield l) #[] #[])), (1, (.pointer (some ⟨b, 0, none⟩))), (5, (.slice p xs.length cap)), (6, (.int .i64 ((xs.length : Nat) : Int))), (7, (.int .i64 ((k : Nat) : Int)))] ∧ J k H' N') xs.length ⟨0, Nat.zero_le _, rfl, ⟨rfl, rfl, rfl, rfl, rfl, trivial⟩, h0⟩ ?_
  rintro m T H2 N2 ⟨k, hk, rfl, hT, hJ2⟩
  obtain ⟨J2, rfl⟩ := hT.ex
  obtain ⟨hb2, hv2⟩ := hJ k H2 N2 hJ2
  repeat (first|refine ntD ?_|refine nqD ?_|refine wi_seq U ?_)
  refine wi_region U ?_
  refine wli_rd U (rd_lss U rfl rfl) rfl rfl ?_
  refine wli_nil U ?_
  repeat (first|refine ntD ?_|refine nqD ?_|refine wi_seq U ?_)
  refine wi_cond U (t := (decide (((k : Nat) : Int) < ((xs.length : Nat) : Int)))) rfl (fun hck => ?_) fun hck => ?_
  · replace hck := of_decide_eq_true hck
    refine wi_skip U ?_
    repeat (first|refine ntD ?_|refine nqD ?_)
    have hk1 : k < xs.length := by omega
    obtain ⟨b2, off, rfl⟩ := hp (by omega)
    repeat (first|refine ntD ?_|refine nqD ?_|refine wi_seq U ?_)
    refine wi_block U ?_
    repeat (first|refine ntD ?_|refine nqD ?_|refine wi_seq U ?_)
    refine wi_region U ?_
    refine wli_rd U (rd_idx1 U (j := k) sl_26 rfl rfl (by omega)) rfl rfl ?_
    refine wli_rd U (rl1 U el_3 rfl (v := (.int .i64 ((xs[k] : Nat) : Int))) (hv2.n0 U hk1)) rfl rfl ?_
    refine wli_rd U ((ra U).to (v' := (.int .i64 ((xs[k] : Nat) : Int))) rfl) rfl rfl ?_
    refine wli_nil U ?_
    repeat (first|refine ntD ?_|refine nqD ?_|refine wi_seq U ?_)
    refine wi_region U ?_
    refine wli_rd U ((rm U).to (v' := (.func (.yield l) #[] #[])) rfl) rfl rfl ?_
    refine wli_rd U ((rm U).to (v' := (.int .i64 ((xs[k] : Nat) : Int))) rfl) rfl rfl ?_
    refine wli_opi U rfl rfl (op_yield U rfl rfl (fun w ho => ?_))
    obtain ⟨fn, tmps, assign, body, hy, hR⟩ := hY k hk1 H2 N2 hJ2 w ho
    refine ⟨fn, tmps, assign, body, hy, hR.mono ?_⟩
    rintro e w' ⟨v, H3, N3, rfl, ho3, rfl, hJ3⟩
    refine ⟨_, H3, N3, rfl, ho3, ?_⟩
    refine wli_rd U ((rd_not U rfl).to (v' := (.bool false)) rfl) rfl rfl ?_
    refine wli_nil U ?_
    repeat (first|refine ntD ?_|refine nqD ?_|refine wi_seq U ?_)
    refine wi_cond U (t := false) rfl (fun h => nomatch h) fun _ => ?_
    refine wi_skip U ?_
    repeat (first|refine ntD ?_|refine nqD ?_)
    repeat (first|refine ntD ?_|refine nqD ?_|refine wi_seq U ?_)
    refine wi_region U ?_
    refine wli_rd U (rd_add U rfl rfl (by omega) (by omega)) rfl rfl ?_
    refine wli_rd U ((rm U).to (v' := (.int .i64 (((k : Nat) : Int) + 1))) rfl) rfl rfl ?_
    refine wli_nil U ?_
    repeat (first|refine ntD ?_|refine nqD ?_)
    exact ⟨rfl, xs.length - (k + 1), by omega, k + 1, by omega, rfl, ⟨rfl, rfl, rfl, rfl, rfl, trivial⟩, hJ3⟩
  · replace hck := of_decide_eq_false hck
    refine wi_exit U ?_
    repeat (first|refine exit_thenD ?_|refine exit_pastD (by decide) ?_)
    refine exit_blockD ?_
    repeat (first|refine ntD ?_|refine nqD ?_)
    obtain rfl : k = xs.length := by omega
    exact iend0 U (.inl rfl) rfl hJ2
theorem s126 (b : Nat) (sv : Value) (xs : List Nat) (hl : xs.length ≤ 100000) (H : Hp) (N : Nat) (hb : H b = some (.row 26 0 [sv] 1)) (hv : RdS U H sv 1 (nats xs)) : Spec U 126 #[(.slice none 0 0), (.func (.func 113) #[] #[(.pointer (some ⟨b, 0, none⟩))])] H N (fun v H' N' => IsSl H' v 3 1 (nats xs) ∧ (∀ c, blkOf v = some c → N ≤ c) ∧ Sub H H' ∧ N ≤ N') := by
  refine spec_marks U pf_126 (m := 13) rfl rfl (by simp) fun hBN hlt => ?_
  obtain ⟨JJ, hJJ⟩ := Has.ex (T := argsT #[(.slice none 0 0), (.func (.func 113) #[] #[(.pointer (some ⟨b, 0, none⟩))])]) (l := [(0, (.slice none 0 0)), (1, (.func (.func 113) #[] #[(.pointer (some ⟨b, 0, none⟩))]))]) ⟨rfl, rfl, trivial⟩
  rw [hJJ]; clear hJJ
  repeat (first|refine ntD ?_|refine nqD ?_|refine wi_seq U ?_)
  refine wi_region U ?_
  refine wli_op U rfl rfl (op_box U rfl rfl ?_)
  refine wli_rd U ((ra U).to (v' := (.slice none 0 0)) rfl) rfl rfl ?_
  refine wli_nil U ?_
  repeat (first|refine ntD ?_|refine nqD ?_|refine wi_seq U ?_)
  refine wi_region U ?_
  refine wli_rd U ((rm U).to (v' := (.func (.func 113) #[] #[(.pointer (some ⟨b, 0, none⟩))])) rfl) rfl rfl ?_
  refine wli_nil U ?_
  repeat (first|refine ntD ?_|refine nqD ?_|refine wi_seq U ?_)
  refine wi_block U ?_
  refine wi_rangeFunc U Tryz.f113 rfl rfl pf_113 (by kernel_rfl) (by kernel_rfl) (by simp) (fun R hround => ?_)
  refine (s113 U (N + 1 + 1) b sv xs hl (fun k H' N' => H' (N + 1 + 1) = some (R .ready) ∧ H' (N + 1) = some (.obj (.deferred (some []))) ∧ ∃ ov, H' N = some (.row 26 0 [ov] 1) ∧ IsSl H' ov 3 1 (nats (xs.take k)) ∧ (∀ c, blkOf ov = some c → N + 1 + 2 ≤ c) ∧ Sub H H' ∧ N + 1 + 2 ≤ N') ?_ ?_ _ _ ?_).mono U ?_
  · rintro k H2 N2 ⟨_, _, ov, _, _, _, hs2, _⟩; exact ⟨hs2 _ _ hb, hv.sub U hs2⟩
  · rintro k hk H2 N2 ⟨hl2, hd2, ov, hbx, hov, hob, hs2, hN2⟩
    refine hround hl2 rfl ?_
    refine wi_has U (l := [(1, (.func (.func 113) #[] #[(.pointer (some ⟨b, 0, none⟩))])), (2, (.pointer (some ⟨N, 0, none⟩))), (6, (.func (.func 113) #[] #[(.pointer (some ⟨b, 0, none⟩))])), (7, (.int .i64 ((xs[k] : Nat) : Int)))]) ?_ fun J2 => ?_
    · exact ⟨rfl, rfl, rfl, rfl, trivial⟩
    refine wi_own U fun hBN2 hlt2 => ?_
    repeat (first|refine ntD ?_|refine nqD ?_|refine wi_seq U ?_)
    refine wi_region U ?_
    refine wli_rd U ((ra U).to (v' := (.int .i64 ((xs[k] : Nat) : Int))) rfl) rfl rfl ?_
    refine wli_nil U ?_
    refine ⟨rfl, rfl, hl2, ?_⟩
    have hbx1 : (hset H2 (N + 1 + 1) (R .busy)) N = some (.row 26 0 [ov] 1) := (hsn (by omega)).trans hbx
    have hov1 := hov.at (H' := hset H2 (N + 1 + 1) (R .busy)) (fun c hc => hsn (by have := hob c hc; omega))
    refine wi_block U ?_
    repeat (first|refine ntD ?_|refine nqD ?_|refine wi_seq U ?_)
    refine wi_region U ?_
    refine wli_rd U (rl1 U el_26 rfl (v := ov) (by rw [rrw U (by omega) hbx1]; rfl)) rfl rfl ?_
    refine wli_rd U ((rm U).to (v' := (.int .i64 ((xs[k] : Nat) : Int))) rfl) rfl rfl ?_
    refine wli_op U rfl rfl (op_bs U sl_26 rfl (by decide) (by decide) [(.int .i64 ((xs[k] : Nat) : Int))] rfl (by simp [Value.cells]) rfl (cs := [(.int .i64 ((xs[k] : Nat) : Int))]) rfl ?_)
    refine wli_op U rfl rfl (op_append1 U (H0 := _) (cs := nats (xs.take k)) (ys := [(.int .i64 ((xs[k] : Nat) : Int))]) sl_26 rfl (by decide) rfl hov1 (fun hc => by have := (hov.lt hlt2 hc).2; omega) rfl rfl rfl (by omega) (one1 rfl) (by rw [nats_length, List.length_take]; omega) (by rw [nats_length, List.length_take]; omega) ?_)
    intro wA HA NA hNA hslA hfrA hloA
    have hlow : ∀ c, c < N2 → blkOf ov ≠ some c → HA c = (hset H2 (N + 1 + 1) (R .busy)) c := fun c hc hne => (hfrA c (by omega) hne).trans (hsn (by omega))
    have hob2 : ∀ c, c < N + 1 + 2 → blkOf ov ≠ some c := fun c hc h => by have := hob _ h; omega
    have hbxA : HA N = some (.row 26 0 [ov] 1) := (hlow N (by omega) (hob2 _ (by omega))).trans hbx1
    have hon := oneS0 hslA
    refine wli_op0 U rfl (op_store U (vs := [wA]) (cs := [ov]) el_26 rfl rfl hon.1 rfl (one1 hon.2) hbxA (by omega) (by simp) ?_)
    refine wli_nil U ?_
    repeat (first|refine ntD ?_|refine nqD ?_)
    have hw := hslA
    refine ⟨rfl, (hsn (by omega)).trans ((hlow _ (by omega) (hob2 _ (by omega))).trans hsy), rfl, hsy, ?_⟩
    have hF : ∀ c, c < N + 1 + 1 → c ≠ N → (hset (hset HA N (.row 26 0 [wA] 1)) (N + 1 + 1) (R .ready)) c = H2 c := fun c hc hne => (hsn (by omega)).trans ((hsn hne).trans ((hlow c (by omega) (hob2 c (by omega))).trans (hsn (by omega))))
    obtain ⟨cA, hcA1, hcA2, hcA3⟩ := hloA
    have hcAN : N + 1 + 2 ≤ cA := by rcases hcA3 with h | h; exact hob _ h; omega
    refine ⟨(hF _ (by omega) (by omega)).trans hd2, wA, (hsn (by omega)).trans hsy, ?_, ?_, hs2.of (fun c o hc => hF c (by have := (hlt c o hc).2; omega) (by have := (hlt c o hc).2; omega)), by omega⟩
    · rw [show nats (xs.take (k + 1)) = nats (xs.take k) ++ [.int .i64 ((xs[k] : Nat) : Int)] by rw [List.take_succ_eq_append_getElem hk, nats_append]; rfl]
      exact hslA.at fun c hc => by rw [hcA1] at hc; cases hc; rw [hsn (by omega), hsn (by omega)]
    · intro c hc; rw [hcA1] at hc; cases hc; exact hcAN
  · refine ⟨hsy, (hsn (by omega)).trans hsy, .slice none 0 0, (hsn (by omega)).trans ((hsn (by omega)).trans hsy), .inl ⟨rfl, rfl⟩, (fun c hc => by cases hc), ?_, Nat.le_refl _⟩
    exact (((Sub.refl H).hset (fresh hlt (by omega))).hset (fresh hlt (by omega))).hset (fresh hlt (by omega))
  · rintro v H2 N2 ⟨hl2, hd2, ov, hbx, hov, hob, hs2, hN2⟩
    refine ⟨hl2, ?_⟩
    rw [List.take_length] at hov
    repeat (first|refine ntD ?_|refine nqD ?_)
    have hbx1 : (hset H2 (N + 1 + 1) (R .exhausted)) N = some (.row 26 0 [ov] 1) := (hsn (by omega)).trans hbx
    have hd1 : (hset H2 (N + 1 + 1) (R .exhausted)) (N + 1) = some (.obj (.deferred (some []))) := (hsn (by omega)).trans hd2
    have hov1 := hov.at (H' := hset H2 (N + 1 + 1) (R .exhausted)) (fun c hc => hsn (by have := hob c hc; omega))
    repeat (first|refine ntD ?_|refine nqD ?_|refine wi_seq U ?_)
    refine wi_region U ?_
    refine wli_rd U (rl1 U el_26 rfl (v := ov) (by rw [rrw U (by omega) hbx1]; rfl)) rfl rfl ?_
    refine wli_rd U ((ra U).to (v' := ov) rfl) rfl rfl ?_
    refine wli_nil U ?_
    refine wi_ret U ?_
    repeat (first|refine ret_thenD ?_|refine ret_blockD ?_)
    refine ⟨.inr rfl, N + 1, rfl, hd1, ov, mres1 U rfl rfl, ?_⟩
    have hF : ∀ c, c ≠ N + 1 → c ≠ N + 1 + 1 → (hset (hset H2 (N + 1 + 1) (R .exhausted)) (N + 1) (.obj (.deferred none))) c = H2 c := fun c h1 h2 => (hsn h1).trans (hsn h2)
    exact ⟨hov.at (fun c hc => hF c (by have := hob c hc; omega) (by have := hob c hc; omega)), (fun c hc => by have := hob c hc; omega), hs2.of (fun c o hc => hF c (by have := (hlt c o hc).2; omega) (by have := (hlt c o hc).2; omega)), by omega⟩
theorem s112 (b : Nat) (sv : Value) (xs : List Nat) (hl : xs.length ≤ 100000) (H : Hp) (N : Nat) (hb : H b = some (.row 26 0 [sv] 1)) (hv : RdS U H sv 1 (nats xs)) : Spec U 112 #[(.func (.func 113) #[] #[(.pointer (some ⟨b, 0, none⟩))])] H N (fun v H' N' => IsSl H' v 3 1 (nats xs) ∧ (∀ c, blkOf v = some c → N ≤ c) ∧ Sub H H' ∧ N ≤ N') := by
  refine spa U pf_112 (m := 5) rfl rfl (by simp) fun hBN hlt => ?_
  obtain ⟨J, hJ⟩ := Has.ex (T := argsT #[(.func (.func 113) #[] #[(.pointer (some ⟨b, 0, none⟩))])]) (l := [(0, (.func (.func 113) #[] #[(.pointer (some ⟨b, 0, none⟩))]))]) ⟨rfl, trivial⟩
  rw [hJ]; clear hJ
  repeat (first|refine nt ?_|refine nq ?_|refine wq U ?_)
  refine wg U ?_
  refine wr U ((ra U).to (v' := (.slice none 0 0)) rfl) rfl rfl ?_
  refine wz U ?_
  repeat (first|refine nt ?_|refine nq ?_|refine wq U ?_)
  refine wg U ?_
  refine wr U ((rm U).to (v' := (.func (.func 113) #[] #[(.pointer (some ⟨b, 0, none⟩))])) rfl) rfl rfl ?_
  refine wl_op U rfl rfl (op_call U Tryz.f126 rfl rfl pf_126 (by kernel_rfl) (by kernel_rfl) ((s126 U b sv xs hl H N hb hv).mono U ?_))
  rintro ov H2 N2 ⟨hov, hob, hs2, hN2⟩
  refine wr U ((ra U).to (v' := ov) rfl) rfl rfl ?_
  refine wz U ?_
  refine wc_ret U ?_
  repeat (first|refine ret1 ?_|refine ret2 ?_)
  exact end1 U (.inl rfl) rfl (v := ov) rfl ⟨hov, hob, hs2, hN2⟩
theorem s93 (b : Nat) (sv : Value) (xs : List Nat) (hl : xs.length ≤ 100000) (H : Hp) (N : Nat) (hb : H b = some (.row 26 0 [sv] 1)) (hv : RdS U H sv 1 (nats xs)) : Spec U 93 #[(.func (.func 113) #[] #[(.pointer (some ⟨b, 0, none⟩))])] H N (fun v H' N' => IsSl H' v 3 1 (nats (sortN xs)) ∧ (∀ c, blkOf v = some c → N ≤ c) ∧ Sub H H' ∧ N ≤ N') := by
  refine spa U pf_93 (m := 9) rfl rfl (by simp) fun hBN hlt => ?_
  obtain ⟨J, hJ⟩ := Has.ex (T := argsT #[(.func (.func 113) #[] #[(.pointer (some ⟨b, 0, none⟩))])]) (l := [(0, (.func (.func 113) #[] #[(.pointer (some ⟨b, 0, none⟩))]))]) ⟨rfl, trivial⟩
  rw [hJ]; clear hJ
  repeat (first|refine nt ?_|refine nq ?_|refine wq U ?_)
  refine wg U ?_
  refine wr U ((ra U).to (v' := (.slice none 0 0)) rfl) rfl rfl ?_
  refine wz U ?_
  repeat (first|refine nt ?_|refine nq ?_|refine wq U ?_)
  refine wg U ?_
  refine wr U ((rm U).to (v' := (.func (.func 113) #[] #[(.pointer (some ⟨b, 0, none⟩))])) rfl) rfl rfl ?_
  refine wl_op U rfl rfl (op_call U Tryz.f112 rfl rfl pf_112 (by kernel_rfl) (by kernel_rfl) ((s112 U b sv xs hl H N hb hv).mono U ?_))
  rintro ov H2 N2 ⟨hov, hob, hs2, hN2⟩
  refine wr U ((ra U).to (v' := ov) rfl) rfl rfl ?_
  refine wz U ?_
  repeat (first|refine nt ?_|refine nq ?_|refine wq U ?_)
  refine wg U ?_
  refine wr U ((rm U).to (v' := ov) rfl) rfl rfl ?_
  refine wl_op U rfl rfl (op_call U Tryz.f22 rfl rfl pf_22 (by kernel_rfl) (by kernel_rfl) ((s22 U ov xs H2 N2 hov (by omega)).mono U ?_))
  rintro _ H3 N3 ⟨rfl, hN3, hov3, hfr3⟩
  refine wz U ?_
  repeat (first|refine nt ?_|refine nq ?_|refine wq U ?_)
  refine wg U ?_
  refine wr U ((rm U).to (v' := ov) rfl) rfl rfl ?_
  refine wr U ((ra U).to (v' := ov) rfl) rfl rfl ?_
  refine wz U ?_
  refine wc_ret U ?_
  repeat (first|refine ret1 ?_|refine ret2 ?_)
  exact end1 U (.inl rfl) rfl (v := ov) rfl ⟨hov3, hob, hs2.of (fun c o hc => hfr3 c (fun h => by have := hob _ h; have := (hlt c o hc).2; omega)), by omega⟩
theorem s94 (sv : Value) (h1 : sv.cells.toList = [sv]) (H : Hp) (N : Nat) : Spec U 94 #[sv] H N (fun v H' N' => v = .func (.func 113) #[] #[(.pointer (some ⟨N, 0, none⟩))] ∧ H' = hset H N (.row 26 0 [sv] 1) ∧ N' = N + 1) := by
  refine spa U pf_94 (m := 4) rfl rfl (by simp) fun hBN hlt => ?_
  obtain ⟨J, hJ⟩ := Has.ex (T := argsT #[sv]) (l := [(0, sv)]) ⟨rfl, trivial⟩
  rw [hJ]; clear hJ
  repeat (first|refine nt ?_|refine nq ?_|refine wq U ?_)
  refine wg U ?_
  refine wl_op U rfl rfl (op_box U rfl h1 ?_)
  refine wr U ((ra U).to (v' := .nilFunc) rfl) rfl rfl ?_
  refine wz U ?_
  repeat (first|refine nt ?_|refine nq ?_|refine wq U ?_)
  refine wg U ?_
  refine wr U ((rd_makeFunc U).to (v' := (.func (.func 113) #[] #[(.pointer (some ⟨N, 0, none⟩))])) rfl) rfl rfl ?_
  refine wr U ((ra U).to (v' := (.func (.func 113) #[] #[(.pointer (some ⟨N, 0, none⟩))])) rfl) rfl rfl ?_
  refine wz U ?_
  refine wc_ret U ?_
  repeat (first|refine ret1 ?_|refine ret2 ?_)
  exact end1 U (.inl rfl) rfl (v := (.func (.func 113) #[] #[(.pointer (some ⟨N, 0, none⟩))])) rfl ⟨rfl, rfl, rfl⟩
end Go.Proofs.YtdmodppoellbkaaGreat
namespace Go.Proofs.YtdmodppoellbkaaGreat
/-- What has been added to a field: 'S u y' of y to the list of u. -/
structure Jn (F1 F : Fi) (S : Nat → Nat → Prop) : Prop where
  len : F.length = F1.length
  no : ∀ u : Nat, F1[u]? = some none → F[u]? = some none
  yes : ∀ (u : Nat) (ku : List Nat), F1[u]? = some (some ku) → ∃ ku', F[u]? = some (some ku') ∧ (ku.Nodup → ku'.Nodup) ∧ ∀ y, y ∈ ku' ↔ y ∈ ku ∨ S u y
theorem Jn.start (F : Fi) {S : Nat → Nat → Prop} (h : ∀ u y, ¬ S u y) : Jn F F S := ⟨rfl, fun _ h => h, fun u ku hu => ⟨ku, hu, id, fun y => by simp [h u y]⟩⟩
theorem Jn.congr {F1 F : Fi} {S S' : Nat → Nat → Prop} (h : Jn F1 F S) (hs : ∀ u y, S u y ↔ S' u y) : Jn F1 F S' :=
  ⟨h.len, h.no, fun u ku hu => by obtain ⟨k, h1, h2, h3⟩ := h.yes u ku hu; exact ⟨k, h1, h2, fun y => by rw [h3 y, hs u y]⟩⟩
theorem mem_addK {ks : List Nat} {k y : Nat} : y ∈ addK ks k ↔ y ∈ ks ∨ y = k := by
  unfold addK; split
  · rename_i h; exact ⟨.inl, fun h1 => h1.elim id (fun h2 => h2 ▸ h)⟩
  · simp
theorem nodup_addK {ks : List Nat} {k : Nat} (h : ks.Nodup) : (addK ks k).Nodup := by
  unfold addK; split
  · exact h
  · rename_i hk; rw [List.nodup_append]; exact ⟨h, by simp, fun a ha b hb hab => by simp at hb; subst hb; subst hab; exact hk ha⟩
theorem Jn.add {F1 F : Fi} {S : Nat → Nat → Prop} (h : Jn F1 F S) {a b : Nat} {ka : List Nat} (ha : F[a]? = some (some ka)) : Jn F1 (F.set a (some (addK ka b))) (fun u y => S u y ∨ (u = a ∧ y = b)) := by
  have hal : a < F.length := by
    rcases Nat.lt_or_ge a F.length with h1 | h1
    · exact h1
    · rw [List.getElem?_eq_none h1] at ha; cases ha
  refine ⟨by rw [List.length_set]; exact h.len, fun u hu => ?_, fun u ku hu => ?_⟩
  · rw [List.getElem?_set]
    by_cases hau : a = u
    · subst hau; have := h.no a hu; rw [ha] at this; cases this
    · rw [if_neg hau]; exact h.no u hu
  · obtain ⟨k, h1, h2, h3⟩ := h.yes u ku hu
    rw [List.getElem?_set]
    by_cases hau : a = u
    · subst hau
      rw [ha] at h1; cases h1
      rw [if_pos rfl, if_pos hal]
      exact ⟨_, rfl, fun hn => nodup_addK (h2 hn), fun y => by rw [mem_addK, h3 y]; simp [or_assoc]⟩
    · rw [if_neg hau]
      exact ⟨k, h1, h2, fun y => by rw [h3 y]; simp [Ne.symm hau]⟩
/-- What the two loops over 'l' have added, behind i rounds and j of the next. -/
def SS (l : List Nat) (i j : Nat) (u y : Nat) : Prop := y ≠ u ∧ ((∃ i', i' < i ∧ l[i']? = some u ∧ y ∈ l) ∨ (l[i]? = some u ∧ ∃ j', j' < j ∧ l[j']? = some y))
theorem SS.zero (l : List Nat) (u y : Nat) : ¬ SS l 0 0 u y := by
  rintro ⟨_, ⟨i', h, _⟩ | ⟨_, j', h, _⟩⟩ <;> omega
theorem SS.add {l : List Nat} {i j : Nat} (hi : i < l.length) (hj : j < l.length) (hne : l[i] ≠ l[j]) (u y : Nat) : (SS l i j u y ∨ (u = l[i] ∧ y = l[j])) ↔ SS l i (j + 1) u y := by
  constructor
  · rintro (⟨h1, h2 | ⟨h2, j', h3, h4⟩⟩ | ⟨rfl, rfl⟩)
    · exact ⟨h1, .inl h2⟩
    · exact ⟨h1, .inr ⟨h2, j', by omega, h4⟩⟩
    · exact ⟨Ne.symm hne, .inr ⟨List.getElem?_eq_getElem hi, j, by omega, List.getElem?_eq_getElem hj⟩⟩
  · rintro ⟨h1, h2 | ⟨h2, j', h3, h4⟩⟩
    · exact .inl ⟨h1, .inl h2⟩
    · rcases Nat.lt_or_ge j' j with h5 | h5
      · exact .inl ⟨h1, .inr ⟨h2, j', h5, h4⟩⟩
      · obtain rfl : j' = j := by omega
        rw [List.getElem?_eq_getElem hi] at h2
        rw [List.getElem?_eq_getElem hj] at h4
        cases h2; cases h4
        exact .inr ⟨rfl, rfl⟩
theorem SS.same {l : List Nat} {i j : Nat} (hi : i < l.length) (hj : j < l.length) (he : l[i] = l[j]) (u y : Nat) : SS l i j u y ↔ SS l i (j + 1) u y := by
  constructor
  · rintro ⟨h1, h2 | ⟨h2, j', h3, h4⟩⟩
    · exact ⟨h1, .inl h2⟩
    · exact ⟨h1, .inr ⟨h2, j', by omega, h4⟩⟩
  · rintro ⟨h1, h2 | ⟨h2, j', h3, h4⟩⟩
    · exact ⟨h1, .inl h2⟩
    · rcases Nat.lt_or_ge j' j with h5 | h5
      · exact ⟨h1, .inr ⟨h2, j', h5, h4⟩⟩
      · obtain rfl : j' = j := by omega
        rw [List.getElem?_eq_getElem hi] at h2
        rw [List.getElem?_eq_getElem hj] at h4
        cases h2; cases h4
        exact absurd he.symm h1
theorem SS.round {l : List Nat} {i : Nat} (hi : i < l.length) (u y : Nat) : SS l i l.length u y ↔ SS l (i + 1) 0 u y := by
  have hm : ∀ y, y ∈ l ↔ ∃ j', j' < l.length ∧ l[j']? = some y := by
    intro y; rw [List.mem_iff_getElem?]
    exact ⟨fun ⟨j, h⟩ => ⟨j, (List.getElem?_eq_some_iff.1 h).1, h⟩, fun ⟨j, _, h⟩ => ⟨j, h⟩⟩
  constructor
  · rintro ⟨h1, ⟨i', h2, h3⟩ | ⟨h2, h3⟩⟩
    · exact ⟨h1, .inl ⟨i', by omega, h3⟩⟩
    · exact ⟨h1, .inl ⟨i, by omega, h2, (hm y).2 h3⟩⟩
  · rintro ⟨h1, ⟨i', h2, h3, h4⟩ | ⟨_, j', h2, _⟩⟩
    · rcases Nat.lt_or_ge i' i with h5 | h5
      · exact ⟨h1, .inl ⟨i', h5, h3, h4⟩⟩
      · obtain rfl : i' = i := by omega
        exact ⟨h1, .inr ⟨h3, (hm y).1 h4⟩⟩
    · omega
theorem SS.all {l : List Nat} (u y : Nat) : SS l l.length 0 u y ↔ u ∈ l ∧ y ∈ l ∧ y ≠ u := by
  constructor
  · rintro ⟨h1, ⟨i', h2, h3, h4⟩ | ⟨_, j', h2, _⟩⟩
    · exact ⟨List.mem_of_getElem? h3, h4, h1⟩
    · omega
  · rintro ⟨h1, h2, h3⟩
    obtain ⟨i, hi⟩ := List.mem_iff_getElem?.1 h1
    exact ⟨h3, .inl ⟨i, (List.getElem?_eq_some_iff.1 hi).1, hi, h2⟩⟩
theorem Stp.of {ad : Nat → Nat → Prop} {n x : Nat} {F F' F2 : Fi} {d ks : List Nat} (hf : Fok ad F) (hl : F.length = n) (hx : F[x]? = some (some ks)) (hd : d.Perm ks) (ht : Taken n F F' x d) (hj : Jn (F'.set x none) F2 (SS (sortN ks) (sortN ks).length 0)) : Stp F F2 x ks := by
  have hxl : x < F'.length := by
    rw [ht.len, ← hl]
    rcases Nat.lt_or_ge x F.length with h1 | h1
    · exact h1
    · rw [List.getElem?_eq_none h1] at hx; cases hx
  refine ⟨hx, hj.no x (by rw [List.getElem?_set, if_pos rfl, if_pos hxl]), fun u hu => hj.no u ?_, fun u ku hux hu => ?_, by rw [hj.len, List.length_set, ht.len, hl]⟩
  · rw [List.getElem?_set]
    split
    · rfl
    · exact ht.no u hu
  · have h1 := ht.yes u ku hu
    obtain ⟨k, h2, h3, h4⟩ := hj.yes u (if u ∈ d then ku.erase x else ku) (by rw [List.getElem?_set, if_neg (Ne.symm hux)]; exact h1)
    have hkn := hf.nd u ku hu
    refine ⟨k, h2, h3 (by split; exact hkn.erase x; exact hkn), fun y => ?_⟩
    rw [h4 y, SS.all, mem_sortN, mem_sortN]
    by_cases hud : u ∈ d
    · rw [if_pos hud, List.Nodup.mem_erase_iff hkn]
      exact or_congr ⟨fun h => ⟨h.2, h.1⟩, fun h => ⟨h.2, h.1⟩⟩ Iff.rfl
    · rw [if_neg hud]
      refine or_congr ⟨fun h => ⟨h, ?_⟩, fun h => h.1⟩ Iff.rfl
      rintro rfl
      obtain ⟨_, ky, h5, h6⟩ := hf.sym u ku y hu h
      rw [hx] at h5; cases h5
      exact hud (hd.mem_iff.2 h6)
theorem SokF.nodup {ad : Nat → Nat → Prop} {F : Fi} : ∀ {S : List St}, SokF ad F S → (S.map (·.1)).Nodup ∧ ∀ u ∈ S.map (·.1), ¬ Alive F u
  | [], _ => by simp
  | x :: S, h => by
    obtain ⟨_, h2, h3, _, _, _, h7⟩ := h
    have := h7.nodup
    rw [List.map_cons, List.nodup_cons]
    refine ⟨⟨h2, this.1⟩, fun u hu => ?_⟩
    rcases List.mem_cons.1 hu with rfl | hu
    · exact h3
    · exact this.2 u hu
theorem Sinv.left {ad : Nat → Nat → Prop} {n : Nat} {F : Fi} {st : List St} (h : Sinv ad n F st) {x : Nat} {ks : List Nat} (hx : F[x]? = some (some ks)) : st.length + 1 ≤ n := by
  obtain ⟨h1, h2⟩ := h.sok.nodup
  have hxn : x < n := by
    rw [← h.len]
    rcases Nat.lt_or_ge x F.length with h3 | h3
    · exact h3
    · rw [List.getElem?_eq_none h3] at hx; cases hx
  have := nodup_len n (x :: st.map (·.1)) (by rw [List.nodup_cons]; exact ⟨fun hm => h2 x hm ⟨ks, hx⟩, h1⟩) (fun y hy => by
    rcases List.mem_cons.1 hy with rfl | hy
    · exact hxn
    · exact h.lt y hy)
  simpa using this
theorem Sinv.begin {n : Nat} {E : List NE} (hg : GOk n E) : Sinv (adj E) n ((nearL n E).map some) [] := by
  have hget : ∀ (u : Nat) (ks : List Nat), ((nearL n E).map some)[u]? = some (some ks) → (nearL n E)[u]? = some ks := fun u ks h => by
    rw [List.getElem?_map] at h
    cases h0 : (nearL n E)[u]? with
    | none => rw [h0] at h; cases h
    | some k => rw [h0] at h; simpa using h
  have hmem : ∀ (u : Nat) (ks : List Nat), (nearL n E)[u]? = some ks → ∀ y, y ∈ ks ↔ adj E u y := fun u ks h y => by
    have := nearL_mem hg u y
    rw [List.getD_eq_getElem?_getD, h] at this; exact this
  have hal : ∀ u, u < n → ∃ ks, (nearL n E)[u]? = some ks := fun u hu => get_ex (by rw [nearL_length]; exact hu)
  refine ⟨⟨fun u ks h => near_nodup hg ks (List.mem_of_getElem? (hget u ks h)), fun u ks y h hy => ?_, fun u ks v h ha _ => (hmem u ks (hget u ks h) v).2 ha⟩, trivial, by simp [nearL_length], fun u hu => ?_, by simp, by simp, fun K hK => ⟨fun u ks y h hy => hK u y ((hmem u ks (hget u ks h) y).1 hy), by simp⟩⟩
  · have ha := (hmem u ks (hget u ks h) y).1 hy
    have hlt := hg.adj_lt ha
    obtain ⟨ky, hky⟩ := hal y hlt.2.1
    exact ⟨Ne.symm hlt.2.2, ky, by rw [List.getElem?_map, hky]; rfl, (hmem y ky hky u).2 ha.symm⟩
  · obtain ⟨ks, hks⟩ := hal u hu
    exact .inl ⟨ks, by rw [List.getElem?_map, hks]; rfl⟩
end Go.Proofs.YtdmodppoellbkaaGreat
namespace Go.Proofs.YtdmodppoellbkaaGreat
open Go Go.RowKit
variable (U : Cx)
theorem IsSl.form {H : Hp} {v : Value} {e sz : Nat} {cs : List Value} (h : IsSl H v e sz cs) : ∃ p k cap, v = .slice p k cap ∧ cs.length = k * sz ∧ k ≤ cap ∧ (0 < k → ∃ b off, p = some ⟨b, off, none⟩) := by
  rcases h with ⟨rfl, rfl⟩ | ⟨b, off, k, cap, tot, rfl, _, hl, hk, _⟩
  · exact ⟨none, 0, 0, rfl, by simp, Nat.le_refl _, fun h => by omega⟩
  · exact ⟨_, k, cap, rfl, hl, hk, fun _ => ⟨b, off, rfl⟩⟩
/-- Values of lists of the program's own, and what they hold. -/
def SlV (H : Hp) (us : List Value) (xss : List (List Nat)) : Prop := us.length = xss.length ∧ ∀ (i : Nat) (u : Value) (xs : List Nat), us[i]? = some u → xss[i]? = some xs → IsSl H u 3 1 (nats xs)
theorem SlV.push {H : Hp} {us : List Value} {xss : List (List Nat)} {u : Value} {xs : List Nat} (h : SlV H us xss) (hu : IsSl H u 3 1 (nats xs)) : SlV H (us ++ [u]) (xss ++ [xs]) := by
  refine ⟨by simp [h.1], fun i v ys hv hy => ?_⟩
  rcases Nat.lt_or_ge i us.length with hi | hi
  · rw [List.getElem?_append_left hi] at hv
    rw [List.getElem?_append_left (by rw [← h.1]; exact hi)] at hy
    exact h.2 i v ys hv hy
  · rw [List.getElem?_append_right hi] at hv
    rw [List.getElem?_append_right (by rw [← h.1]; exact hi)] at hy
    have h0 : i - us.length = 0 := by
      rcases Nat.eq_zero_or_pos (i - us.length) with h' | h'
      · exact h'
      · rw [List.getElem?_eq_none (by simp; omega)] at hv; cases hv
    rw [h0] at hv
    rw [← h.1, h0] at hy
    simp at hv hy; subst hv; subst hy; exact hu
/-- The cells of a list of steps. -/
def stc : List St → List Value → List Value
  | s :: st, u :: us => .int .i64 ((s.1 : Nat) : Int) :: u :: stc st us
  | _, _ => []
theorem stc_length : ∀ {st : List St} {us : List Value}, us.length = st.length → (stc st us).length = st.length * 2
  | [], [], _ => rfl
  | s :: st, u :: us, h => by simp only [stc, List.length_cons]; rw [stc_length (by simpa using h)]; omega
theorem stc_push : ∀ {st : List St} {us : List Value} (s : St) (u : Value), us.length = st.length → stc (st ++ [s]) (us ++ [u]) = stc st us ++ [.int .i64 ((s.1 : Nat) : Int), u]
  | [], [], _, _, _ => rfl
  | a :: st, b :: us, s, u, h => by simp only [stc, List.cons_append]; rw [stc_push s u (by simpa using h)]
theorem stc_get : ∀ {st : List St} {us : List Value}, us.length = st.length → ∀ {i : Nat} (h : i < st.length) {u : Value}, us[i]? = some u → (stc st us)[i * 2]? = some (.int .i64 ((st[i].1 : Nat) : Int)) ∧ (stc st us)[i * 2 + 1]? = some u
  | s :: st, b :: us, hl, 0, _, u, hu => by simp at hu; subst hu; exact ⟨rfl, rfl⟩
  | s :: st, b :: us, hl, i + 1, h, u, hu => by
    have := stc_get (st := st) (us := us) (by simpa using hl) (i := i) (by simpa using h) (u := u) (by simpa using hu)
    rw [show (i + 1) * 2 = i * 2 + 1 + 1 by omega]
    simpa [stc] using this
/-- Steps in memory, while their list grows. -/
structure Stm (H : Hp) (M : Nat) (v : Value) (us : List Value) (st : List St) : Prop where
  sl : IsSl H v 106 2 (stc st us)
  nsl : SlV H us (st.map (·.2))
  lo : ∀ c, blkOf v = some c → M ≤ c
  nlo : ∀ u ∈ us, ∀ c, blkOf u = some c → M ≤ c
  ne : ∀ u ∈ us, ∀ c, blkOf u = some c → blkOf v ≠ some c
theorem Stm.at {H H' : Hp} {M N : Nat} {v : Value} {us : List Value} {st : List St} (h : Stm H M v us st) (hl : ∀ b o, H b = some o → U.B ≤ b ∧ b < N) (hk : ∀ c, M ≤ c → c < N → H' c = H c) : Stm H' M v us st := by
  refine ⟨h.sl.at fun c hc => hk c (h.lo c hc) (h.sl.lt hl hc).2, ⟨h.nsl.1, fun i u xs hu hx => ?_⟩, h.lo, h.nlo, h.ne⟩
  exact (h.nsl.2 i u xs hu hx).at fun c hc => hk c (h.nlo u (List.mem_of_getElem? hu) c hc) ((h.nsl.2 i u xs hu hx).lt hl hc).2
theorem Stm.ulen {H : Hp} {M : Nat} {v : Value} {us : List Value} {st : List St} (h : Stm H M v us st) : us.length = st.length := by rw [h.nsl.1]; simp
theorem SlV.lt {H : Hp} {us : List Value} {xss : List (List Nat)} (h : SlV H us xss) {M N : Nat} (hl : ∀ b o, H b = some o → M ≤ b ∧ b < N) {u : Value} (hu : u ∈ us) {c : Nat} (hc : blkOf u = some c) : c < N := by
  obtain ⟨i, hi⟩ := List.mem_iff_getElem?.1 hu
  obtain ⟨xs, hx⟩ := get_ex (l := xss) (i := i) (by rw [← h.1]; exact (List.getElem?_eq_some_iff.1 hi).1)
  exact ((h.2 i u xs hi hx).lt hl hc).2
theorem Stm.push {H H' : Hp} {M N cA : Nat} {v v' u : Value} {us : List Value} {st : List St} {s : St} (h : Stm H M v us st) (hl : ∀ b o, H b = some o → U.B ≤ b ∧ b < N) (hk : ∀ c, c < N → blkOf v ≠ some c → H' c = H c)
    (hs : IsSl H' v' 106 2 (stc st us ++ [.int .i64 ((s.1 : Nat) : Int), u])) (hv : blkOf v' = some cA) (hcA : M ≤ cA) (hcv : blkOf v = some cA ∨ N ≤ cA) (hu : IsSl H u 3 1 (nats s.2)) (hul : ∀ c, blkOf u = some c → M ≤ c) (hne : ∀ c, blkOf u = some c → blkOf v ≠ some c) :
    Stm H' M v' (us ++ [u]) (st ++ [s]) := by
  have hw : ∀ w ∈ us ++ [u], ∀ c, blkOf w = some c → c < N ∧ blkOf v ≠ some c ∧ M ≤ c := by
    intro w hw c hc
    rcases List.mem_append.1 hw with h1 | h1
    · exact ⟨h.nsl.lt hl h1 hc, h.ne w h1 c hc, h.nlo w h1 c hc⟩
    · simp at h1; subst h1; exact ⟨(hu.lt hl hc).2, hne c hc, hul c hc⟩
  refine ⟨by rw [stc_push _ _ h.ulen]; exact hs, ?_, fun c hc => by rw [hv] at hc; cases hc; exact hcA, fun w h1 c hc => (hw w h1 c hc).2.2, fun w h1 c hc hc2 => ?_⟩
  · rw [List.map_append]
    refine SlV.push ⟨h.nsl.1, fun i w xs h1 hx => (h.nsl.2 i w xs h1 hx).at fun c hc => ?_⟩ (hu.at fun c hc => ?_)
    · have := hw w (List.mem_append_left _ (List.mem_of_getElem? h1)) c hc; exact hk c this.1 this.2.1
    · have := hw u (by simp) c hc; exact hk c this.1 this.2.1
  · rw [hv] at hc2; cases hc2
    have := hw w h1 _ hc
    rcases hcv with h2 | h2
    · exact this.2.1 h2
    · omega
theorem set_none {vs : List Value} {x M i c : Nat} (h : ∀ (i c : Nat), vs[i]? = some (.map (some c)) → c < M) (hi : (vs.set x (.map none))[i]? = some (.map (some c))) : c < M := by
  rw [List.getElem?_set] at hi
  split at hi
  · split at hi <;> cases hi
  · exact h i c hi
theorem Fldo.low {R H : Hp} {b L n N : Nat} {vs : List Value} {F : List (Option (List Nat))} (h : Fldo R H b L n N vs F) (M : Nat) (hv : ∀ (i c : Nat), vs[i]? = some (.map (some c)) → c < M) (hL : L ≤ M) : Fldo R H b L n M vs F :=
  ⟨⟨h.f.len, h.f.nil, fun i v ks h1 h2 => by
    obtain ⟨c, rfl, h4, _, h6⟩ := h.f.map i v ks h1 h2
    exact ⟨c, rfl, h4, hv i c h1, h6⟩, h.f.ne⟩, h.row, h.len, h.sub, h.lt.1, hL⟩
/-- Steps that can be read. -/
def RdSt (F : Hp) (v : Value) (st : List St) : Prop := ∃ us, RdS U F v 2 (stc st us) ∧ us.length = st.length ∧ RdV U F us (st.map (·.2))
theorem RdSt.sub {F H : Hp} {v : Value} {st : List St} (h : RdSt U F v st) (hs : Sub F H) : RdSt U H v st := by
  obtain ⟨us, h1, h2, h3⟩ := h
  exact ⟨us, h1.sub U hs, h2, h3.sub U hs⟩
theorem Stm.hi {H : Hp} {M K : Nat} {v : Value} {us : List Value} {st : List St} (h : Stm H M v us st) (hK : K ≤ M) : Stm (hiH K H) M v us st :=
  ⟨h.sl.at fun c hc => hiH_ge (by have := h.lo c hc; omega), ⟨h.nsl.1, fun i u xs hu hx => (h.nsl.2 i u xs hu hx).at fun c hc => hiH_ge (by have := h.nlo u (List.mem_of_getElem? hu) c hc; omega)⟩, h.lo, h.nlo, h.ne⟩
theorem Stm.rd {H : Hp} {M : Nat} {v : Value} {us : List Value} {st : List St} (h : Stm H M v us st) (hB : ∀ b o, H b = some o → U.B ≤ b) : RdSt U H v st :=
  ⟨us, h.sl.rds U hB, h.ulen, h.nsl.1, fun i u xs hu hx => (h.nsl.2 i u xs hu hx).rds U hB⟩
theorem s62 (n : Nat) (E : List NE) (sv : Value) (hg : GOk n E) (H : Hp) (N : Nat) (hv : RdS U H sv 3 (necs E)) : Spec U 62 #[(.agg #[(.int .i64 ((n : Nat) : Int)), sv])] H N (fun v H' N' => ∃ ov W st, v = .tuple #[ov, .int .i64 W] ∧ Steps (adj E) n st ∧ RdSt U (hiH N H') ov st ∧ Sub H H' ∧ N ≤ N') := by
  obtain ⟨p, cap, rfl, hc, hp⟩ := hv.edges U
  refine spa U pf_62 (m := 56) rfl rfl (by simp) fun hBN hlt => ?_
  obtain ⟨J, hJ⟩ := Has.ex (T := argsT #[(.agg #[(.int .i64 ((n : Nat) : Int)), (.slice p E.length cap)])]) (l := [(0, (.agg #[(.int .i64 ((n : Nat) : Int)), (.slice p E.length cap)]))]) ⟨rfl, trivial⟩
  rw [hJ]; clear hJ
  have hn := hg.hn
  repeat (first|refine nt ?_|refine nq ?_|refine wq U ?_)
  refine wg U ?_
  refine wl_op U rfl rfl (op_box U rfl rfl ?_)
  refine wr U ((ra U).to (v' := (.slice none 0 0)) rfl) rfl rfl ?_
  refine wr U ((ra U).to (v' := (.int .i64 0)) rfl) rfl rfl ?_
  refine wz U ?_
  repeat (first|refine nt ?_|refine nq ?_|refine wq U ?_)
  refine wg U ?_
  refine wr U (rd_load2 U el_24 rfl (v0 := (.int .i64 ((n : Nat) : Int))) (v1 := (.slice p E.length cap))  (by rw [rhq U (by omega)]; rfl) (by rw [rhq U (by omega)]; rfl)) rfl rfl ?_
  refine wl_op U rfl rfl (op_call U Tryz.f89 rfl rfl pf_89 (by kernel_rfl) (by kernel_rfl) ((s89 U n E _ hg _ _ (hv.sub U ((Sub.refl H).hset (fresh hlt (by omega))))).mono U ?_))
  rintro _ H1 N1 ⟨b, L, vs, rfl, hNb, hF, hN1⟩
  refine wr U ((ra U).to (v' := (.slice (some ⟨b, 0, none⟩) n n)) rfl) rfl rfl ?_
  refine wz U ?_
  have hlt1 := hF.lt
  obtain ⟨R, hF, hR, hHR⟩ : ∃ R, Fldo R H1 b L n N1 vs ((nearL n E).map some) ∧ (∀ c o, R c = some o → U.B ≤ c ∧ c < L ∧ c ≠ b) ∧ Sub H R := ⟨_, hF, (fun c o hc => by unfold hset at hc; split at hc; omega; have := hlt c o hc; omega), (Sub.refl H).hset (fresh hlt (by omega))⟩
  have hvs : ∀ (i c : Nat), vs[i]? = some (.map (some c)) → c < N1 := fun i c hi => by
    obtain ⟨o, ho⟩ := get_ex (l := (nearL n E).map some) (i := i) (by rw [← hF.f.len]; exact (List.getElem?_eq_some_iff.1 hi).1)
    cases o with
    | none => have := hF.f.nil i _ hi ho; cases this
    | some ks => obtain ⟨c2, h1, _, h3, _⟩ := hF.f.map i _ ks hi ho; cases h1; exact h3
  repeat (first|refine nt ?_|refine nq ?_|refine wq U ?_)
  refine wg U ?_
  refine wr U ((rm U).to (v' := (.slice (some ⟨b, 0, none⟩) n n)) rfl) rfl rfl ?_
  refine wl_op U rfl rfl (op_call U Tryz.f90 rfl rfl pf_90 (by kernel_rfl) (by kernel_rfl) ((s90 U R b L n vs _ hn H1 N1 hF).mono U ?_))
  rintro _ _ _ ⟨⟨r, rfl, hr⟩, rfl, rfl⟩
  refine wr U ((ra U).to (v' := (.int .i64 r)) rfl) rfl rfl ?_
  refine wz U ?_
  repeat (first|refine nt ?_|refine nq ?_|refine wq U ?_)
  refine wc_block U ?_
  refine wc_loop U (fun m T H' N' => ∃ (ov : Value) (W r : Int) (us : List Value) (st : List St) (F : Fi) (vs : List Value), m = n - st.length ∧ Has T [(2, ov), (3, (.int .i64 W)), (4, (.slice (some ⟨b, 0, none⟩) n n)), (5, (.int .i64 r))] ∧ Few n F n r ∧ Fldo R H' b L n N' vs F ∧ Sinv (adj E) n F st ∧ Stm H' N1 ov us st ∧ (∀ (i c : Nat), vs[i]? = some (.map (some c)) → c < N1) ∧ N1 ≤ N') n ⟨.slice none 0 0, 0, r, [], [], _, vs, by simp, ⟨rfl, rfl, rfl, rfl, trivial⟩, hr, hF, Sinv.begin hg, ⟨.inl ⟨rfl, rfl⟩, ⟨rfl, fun i u xs hu => by cases hu⟩, (fun c hc => by cases hc), (fun u hu => by cases hu), fun u hu => by cases hu⟩, hvs, Nat.le_refl _⟩ ?_
  clear hF hvs hr
  rintro m T H2 N2 ⟨ov, W, r, us, st, F, vs, rfl, hT, hr, hF, hS, hst, hvs, hN2⟩
  obtain ⟨J, rfl⟩ := hT.ex
  refine wc_own U fun hBN2 hlt2 => ?_
  repeat (first|refine nt ?_|refine nq ?_|refine wq U ?_)
  refine wg U ?_
  refine wr U ((rm U).to (v' := (.int .i64 r)) rfl) rfl rfl ?_
  refine wr U (rd_geq U rfl rfl) rfl rfl ?_
  refine wz U ?_
  repeat (first|refine nt ?_|refine nq ?_|refine wq U ?_)
  refine wcd U (t := (decide (0 ≤ r))) rfl (fun hck => ?_) fun hck => ?_
  · replace hck := of_decide_eq_true hck
    refine wsk U ?_
    repeat (first|refine nt ?_|refine nq ?_)
    obtain ⟨x, ks, rfl, hxn, hx⟩ : ∃ (v : Nat) (ks : List Nat), r = ((v : Nat) : Int) ∧ v < n ∧ F[v]? = some (some ks) := by rcases hr with ⟨h, _⟩ | h; omega; exact h
    have hxl := hS.left hx
    have hnd := hS.fok.nd x ks hx
    have hsym : ∀ u ∈ ks, u ≠ x ∧ u < n ∧ ∃ ku, F[u]? = some (some ku) := fun u hu => by
      obtain ⟨h1, ku, h2, _⟩ := hS.fok.sym x ks u hx hu
      exact ⟨h1, by rw [← hS.len]; exact (List.getElem?_eq_some_iff.1 h2).1, ku, h2⟩
    have hkl : (sortN ks).length ≤ n := by rw [sortN_length]; exact nodup_len n ks hnd (fun u hu => (hsym u hu).2.1)
    repeat (first|refine nt ?_|refine nq ?_|refine wq U ?_)
    refine wc_block U ?_
    repeat (first|refine nt ?_|refine nq ?_|refine wq U ?_)
    refine wg U ?_
    refine wr U ((rm U).to (v' := (.slice (some ⟨b, 0, none⟩) n n)) rfl) rfl rfl ?_
    refine wr U ((rm U).to (v' := (.int .i64 ((x : Nat) : Int))) rfl) rfl rfl ?_
    refine wl_op U rfl rfl (op_call U Tryz.f91 rfl rfl pf_91 (by kernel_rfl) (by kernel_rfl) ((s91 U R b L n x vs F ks hn H2 N2 hF hR hx hxn hnd hsym).mono U ?_))
    rintro lv H3 N3 ⟨F', d, hpm, hTk, hsl, hlb, hF3, hfr3, hN3⟩
    refine wr U ((ra U).to (v' := lv) rfl) rfl rfl ?_
    refine wz U ?_
    obtain ⟨l, hl⟩ : ∃ l, sortN ks = l := ⟨_, rfl⟩
    have hlm : ∀ y, y ∈ l ↔ y ∈ ks := fun y => by rw [← hl]; exact mem_sortN
    rw [hl] at hsl hkl
    obtain ⟨lp, lk, lcap, rfl, hlk, hlc, hlp⟩ := hsl.form
    obtain rfl : lk = l.length := by rw [nats_length] at hlk; omega
    refine wc_own U fun hBN3 hlt3 => ?_
    have hst3 := hst.at U hlt2 (fun c h1 h2 => hfr3 c h2 (by omega) (fun i hi => by have := hvs i c hi; omega))
    have hvs3 : ∀ (i c : Nat), (vs.set x (.map none))[i]? = some (.map (some c)) → c < N1 := fun i c hi => set_none hvs hi
    repeat (first|refine nt ?_|refine nq ?_|refine wq U ?_)
    refine wg U ?_
    refine wr U ((rm U).to (v' := ov) rfl) rfl rfl ?_
    refine wr U ((rm U).to (v' := (.int .i64 ((x : Nat) : Int))) rfl) rfl rfl ?_
    refine wr U ((rm U).to (v' := (.slice lp l.length lcap)) rfl) rfl rfl ?_
    refine wr U (rd_build U (cells := #[(.int .i64 ((x : Nat) : Int)), (.slice lp l.length lcap)]) (by unfold P; kernel_rfl)) rfl rfl ?_
    refine wl_op U rfl rfl (op_bs U sl_102 rfl (by decide) (by decide) [(.agg #[(.int .i64 ((x : Nat) : Int)), (.slice lp l.length lcap)])] rfl (by simp [Value.cells]) rfl (cs := [(.int .i64 ((x : Nat) : Int)), (.slice lp l.length lcap)]) rfl ?_)
    refine wl_op U rfl rfl (op_append1 U (H0 := _) (cs := stc st us) (ys := [(.int .i64 ((x : Nat) : Int)), (.slice lp l.length lcap)]) sl_102 rfl (by decide) rfl hst3.sl (fun hc => by have := (hst3.sl.lt hlt3 hc).2; omega) rfl rfl rfl (by omega) (one2 rfl rfl) (by rw [stc_length hst3.ulen]; omega) (by rw [stc_length hst3.ulen]; omega) ?_)
    intro wA HA NA hNA hslA hfrA hloA
    refine wr U ((ra U).to (v' := wA) rfl) rfl rfl ?_
    refine wz U ?_
    repeat (first|refine nt ?_|refine nq ?_)
    refine wc_own U fun hBNA hltA => ?_
    have hA : ∀ c, c < N3 → blkOf ov ≠ some c → HA c = H3 c := fun c hc hne => (hfrA c (by omega) hne).trans (hsn (by omega))
    obtain ⟨cA, hcA1, hcA2, hcA3⟩ := hloA
    have hcAN : N1 ≤ cA := by rcases hcA3 with h | h; exact hst.lo _ h; omega
    have hovN : ∀ c, c < N1 → blkOf ov ≠ some c := fun c hc h => by have := hst.lo _ h; omega
    have hFA0 : Fldo R H3 b L n N1 (vs.set x (.map none)) (F'.set x none) := hF3.low N1 hvs3 (by omega)
    have hFA := hFA0.keep U hR (fun c hc => hA c (by omega) (hovN c hc)) (Nat.le_refl _)
    have hstA : Stm HA N1 wA (us ++ [(.slice lp l.length lcap)]) (st ++ [(x, l)]) := hst3.push U hlt3 hA hslA hcA1 hcAN (hcA3.imp id (by omega)) hsl (by intro c hc; have := hlb c hc; omega) (fun c hc h => by have := hlb c hc; have := (hst3.sl.lt hlt3 h).2; have := (hst.sl.lt hlt2 h).2; omega)
    obtain ⟨vs2, hvs2⟩ : ∃ q, vs.set x (.map none) = q := ⟨_, rfl⟩
    obtain ⟨F1, hF1⟩ : ∃ q, F'.set x none = q := ⟨_, rfl⟩
    rw [hvs2] at hFA hvs3; rw [hF1] at hFA
    have hslL : IsSl HA (.slice lp l.length lcap) 3 1 (nats l) := hsl.at fun c hc => hA c (hsl.lt hlt3 hc).2 (fun h => by have := hlb c hc; have := (hst.sl.lt hlt2 h).2; omega)
    have hvl := hslL.rds U (fun b o h => (hltA b o h).1)
    repeat (first|refine nt ?_|refine nq ?_|refine wq U ?_)
    refine wg U ?_
    refine wr U ((rm U).to (v' := (.int .i64 W)) rfl) rfl rfl ?_
    refine wr U ((rm U).to (v' := (.slice lp l.length lcap)) rfl) rfl rfl ?_
    refine wr U ((rd_len' U sl_26 rfl).to (v' := (.int .i64 ((l.length : Nat) : Int))) rfl) rfl rfl ?_
    refine wr U (rd_max U rfl rfl) rfl rfl ?_
    refine wr U ((ra U).to (v' := (.int .i64 (max W ((l.length : Nat) : Int)))) rfl) rfl rfl ?_
    refine wz U ?_
    repeat (first|refine nt ?_|refine nq ?_|refine wq U ?_)
    refine wg U ?_
    refine wr U ((rm U).to (v' := (.slice lp l.length lcap)) rfl) rfl rfl ?_
    refine wr U ((rd_len' U sl_26 rfl).to (v' := (.int .i64 ((l.length : Nat) : Int))) rfl) rfl rfl ?_
    refine wr U ((rm U).to (v' := (.int .i64 0)) rfl) rfl rfl ?_
    refine wz U ?_
    have hbB := (hltA _ _ hFA.row).1
    repeat (first|refine nt ?_|refine nq ?_|refine wq U ?_)
    refine wc_block U ?_
    refine wc_loop U (fun m T H' N' => ∃ (i : Nat) (F : Fi), i ≤ l.length ∧ m = l.length - i ∧ Has T [(2, wA), (3, (.int .i64 (max W ((l.length : Nat) : Int)))), (4, (.slice (some ⟨b, 0, none⟩) n n)), (6, (.slice lp l.length lcap)), (32, (.slice lp l.length lcap)), (33, (.int .i64 ((l.length : Nat) : Int))), (34, (.int .i64 ((i : Nat) : Int)))] ∧ Fldo R H' b L n N1 vs2 F ∧ Jn F1 F (SS l i 0) ∧ (∀ c, N1 ≤ c → H' c = HA c) ∧ NA = N') l.length ⟨0, F1, Nat.zero_le _, rfl, ⟨rfl, rfl, rfl, rfl, rfl, rfl, rfl, trivial⟩, hFA, Jn.start F1 (SS.zero l), (fun _ _ => rfl), rfl⟩ ?_
    rintro m T H4 _ ⟨i, F4, hi, rfl, hT, hF4, hJ4, hk4, rfl⟩
    obtain ⟨J, rfl⟩ := hT.ex
    repeat (first|refine nt ?_|refine nq ?_|refine wq U ?_)
    refine wg U ?_
    refine wr U (rd_lss U rfl rfl) rfl rfl ?_
    refine wz U ?_
    repeat (first|refine nt ?_|refine nq ?_|refine wq U ?_)
    refine wcd U (t := (decide (((i : Nat) : Int) < ((l.length : Nat) : Int)))) rfl (fun hci => ?_) fun hci => ?_
    · replace hci := of_decide_eq_true hci
      refine wsk U ?_
      repeat (first|refine nt ?_|refine nq ?_)
      have hi1 : i < l.length := by omega
      obtain ⟨lb, loff, rfl⟩ := hlp (by omega)
      repeat (first|refine nt ?_|refine nq ?_|refine wq U ?_)
      refine wc_block U ?_
      have hv4 : RdS U H4 (.slice (some ⟨lb, loff, none⟩) l.length lcap) 1 (nats l) := hvl.at U (fun c hc => hk4 c (by have := hlb c hc; omega))
      repeat (first|refine nt ?_|refine nq ?_|refine wq U ?_)
      refine wg U ?_
      refine wr U (rd_idx1 U (j := i) sl_26 rfl rfl (by omega)) rfl rfl ?_
      refine wr U (rl1 U el_3 rfl (v := (.int .i64 ((l[i] : Nat) : Int))) (hv4.n0 U hi1)) rfl rfl ?_
      refine wr U ((ra U).to (v' := (.int .i64 ((l[i] : Nat) : Int))) rfl) rfl rfl ?_
      refine wz U ?_
      repeat (first|refine nt ?_|refine nq ?_|refine wq U ?_)
      refine wg U ?_
      refine wr U ((rm U).to (v' := (.slice (some ⟨lb, loff, none⟩) l.length lcap)) rfl) rfl rfl ?_
      refine wr U ((rd_len' U sl_26 rfl).to (v' := (.int .i64 ((l.length : Nat) : Int))) rfl) rfl rfl ?_
      refine wr U ((rm U).to (v' := (.int .i64 0)) rfl) rfl rfl ?_
      refine wz U ?_
      repeat (first|refine nt ?_|refine nq ?_|refine wq U ?_)
      refine wc_block U ?_
      refine wc_loop U (fun m T H' N' => ∃ (j : Nat) (F : Fi), j ≤ l.length ∧ m = l.length - j ∧ Has T [(2, wA), (3, (.int .i64 (max W ((l.length : Nat) : Int)))), (4, (.slice (some ⟨b, 0, none⟩) n n)), (6, (.slice (some ⟨lb, loff, none⟩) l.length lcap)), (8, (.int .i64 ((l[i] : Nat) : Int))), (32, (.slice (some ⟨lb, loff, none⟩) l.length lcap)), (33, (.int .i64 ((l.length : Nat) : Int))), (34, (.int .i64 ((i : Nat) : Int))), (38, (.slice (some ⟨lb, loff, none⟩) l.length lcap)), (39, (.int .i64 ((l.length : Nat) : Int))), (40, (.int .i64 ((j : Nat) : Int)))] ∧ Fldo R H' b L n N1 vs2 F ∧ Jn F1 F (SS l i j) ∧ (∀ c, N1 ≤ c → H' c = HA c) ∧ NA = N') l.length ⟨0, F4, Nat.zero_le _, rfl, ⟨rfl, rfl, rfl, rfl, rfl, rfl, rfl, rfl, rfl, rfl, rfl, trivial⟩, hF4, hJ4, hk4, rfl⟩ ?_
      clear hF4 hJ4 hk4 hv4
      rintro m T H5 _ ⟨j, F5, hj, rfl, hT, hF5, hJ5, hk5, rfl⟩
      obtain ⟨J, rfl⟩ := hT.ex
      repeat (first|refine nt ?_|refine nq ?_|refine wq U ?_)
      refine wg U ?_
      refine wr U (rd_lss U rfl rfl) rfl rfl ?_
      refine wz U ?_
      repeat (first|refine nt ?_|refine nq ?_|refine wq U ?_)
      refine wcd U (t := (decide (((j : Nat) : Int) < ((l.length : Nat) : Int)))) rfl (fun hcj => ?_) fun hcj => ?_
      · replace hcj := of_decide_eq_true hcj
        refine wsk U ?_
        repeat (first|refine nt ?_|refine nq ?_)
        have hj1 : j < l.length := by omega
        have hv5 : RdS U H5 (.slice (some ⟨lb, loff, none⟩) l.length lcap) 1 (nats l) := hvl.at U (fun c hc => hk5 c (by have := hlb c hc; omega))
        repeat (first|refine nt ?_|refine nq ?_|refine wq U ?_)
        refine wc_block U ?_
        repeat (first|refine nt ?_|refine nq ?_|refine wq U ?_)
        refine wg U ?_
        refine wr U (rd_idx1 U (j := j) sl_26 rfl rfl (by omega)) rfl rfl ?_
        refine wr U (rl1 U el_3 rfl (v := (.int .i64 ((l[j] : Nat) : Int))) (hv5.n0 U hj1)) rfl rfl ?_
        refine wr U ((ra U).to (v' := (.int .i64 ((l[j] : Nat) : Int))) rfl) rfl rfl ?_
        refine wz U ?_
        repeat (first|refine nt ?_|refine nq ?_|refine wq U ?_)
        refine wg U ?_
        refine wr U ((rm U).to (v' := (.int .i64 ((l[i] : Nat) : Int))) rfl) rfl rfl ?_
        refine wr U ((rm U).to (v' := (.int .i64 ((l[j] : Nat) : Int))) rfl) rfl rfl ?_
        refine wr U (rd_neq U rfl rfl) rfl rfl ?_
        refine wz U ?_
        repeat (first|refine nt ?_|refine nq ?_|refine wq U ?_)
        refine wcd U (t := (decide (((l[i] : Nat) : Int) ≠ ((l[j] : Nat) : Int)))) rfl (fun hne => ?_) fun hne => ?_
        · replace hne := of_decide_eq_true hne
          have hne2 : l[i] ≠ l[j] := fun h => hne (by rw [h])
          obtain ⟨ka, hka⟩ : ∃ ka, F5[l[i]]? = some (some ka) := by
            obtain ⟨h1, h2, ku, h3⟩ := hsym l[i] ((hlm _).1 (List.getElem_mem hi1))
            have h4 := hTk.yes l[i] ku h3
            obtain ⟨k, h5, _⟩ := hJ5.yes l[i] _ (show F1[l[i]]? = some (some _) by rw [← hF1, List.getElem?_set, if_neg (Ne.symm h1)]; exact h4)
            exact ⟨k, h5⟩
          have hin : l[i] < n := (hsym l[i] ((hlm _).1 (List.getElem_mem hi1))).2.1
          obtain ⟨ca, hva, hcaL, hcaN, hcam⟩ := hF5.at hka
          repeat (first|refine nt ?_|refine nq ?_|refine wq U ?_)
          refine wg U ?_
          refine wr U ((rm U).to (v' := (.slice (some ⟨b, 0, none⟩) n n)) rfl) rfl rfl ?_
          refine wr U ((rm U).to (v' := (.int .i64 ((l[i] : Nat) : Int))) rfl) rfl rfl ?_
          refine wr U (rd_idx1 U (j := l[i]) sl_134 rfl rfl hin) rfl rfl ?_
          refine wr U (rl1 U el_64 rfl (v := (.map (some ca))) (rd_at U (by omega) hF5.row hva)) rfl rfl ?_
          refine wr U ((rm U).to (v' := (.int .i64 ((l[j] : Nat) : Int))) rfl) rfl rfl ?_
          refine wl_op0 U rfl (op_mapUpdate U (v := .bool true) (k := ((l[j] : Nat) : Int)) (m := km ka) um_64 key_int rfl rfl rfl hcam ?_)
          refine wz U ?_
          repeat (first|refine nt ?_|refine nq ?_)
          rw [put_km]
          repeat (first|refine nt ?_|refine nq ?_|refine wq U ?_)
          refine wg U ?_
          refine wr U (rd_add U rfl rfl (by omega) (by omega)) rfl rfl ?_
          refine wr U ((rm U).to (v' := (.int .i64 (((j : Nat) : Int) + 1))) rfl) rfl rfl ?_
          refine wz U ?_
          repeat (first|refine nt ?_|refine nq ?_)
          exact ⟨l.length - (j + 1), by omega, j + 1, _, by omega, rfl, ⟨rfl, rfl, rfl, rfl, rfl, rfl, rfl, rfl, rfl, rfl, rfl, trivial⟩, hF5.turn U hR hva hcaL (addK ka l[j]) hin, (hJ5.add hka).congr (SS.add hi1 hj1 hne2), (fun c hc => (hsn (by omega)).trans (hk5 c hc)), rfl⟩
        · replace hne := of_decide_eq_false hne
          have hne2 : l[i] = l[j] := by omega
          refine wsk U ?_
          repeat (first|refine nt ?_|refine nq ?_)
          repeat (first|refine nt ?_|refine nq ?_|refine wq U ?_)
          refine wg U ?_
          refine wr U (rd_add U rfl rfl (by omega) (by omega)) rfl rfl ?_
          refine wr U ((rm U).to (v' := (.int .i64 (((j : Nat) : Int) + 1))) rfl) rfl rfl ?_
          refine wz U ?_
          repeat (first|refine nt ?_|refine nq ?_)
          exact ⟨l.length - (j + 1), by omega, j + 1, _, by omega, rfl, ⟨rfl, rfl, rfl, rfl, rfl, rfl, rfl, rfl, rfl, rfl, rfl, trivial⟩, hF5, hJ5.congr (SS.same hi1 hj1 hne2), hk5, rfl⟩
      · replace hcj := of_decide_eq_false hcj
        refine wc_exit U ?_
        repeat (first|refine xt ?_|refine xps (by decide) ?_)
        refine xbl ?_
        repeat (first|refine nt ?_|refine nq ?_)
        obtain rfl : j = l.length := by omega
        repeat (first|refine nt ?_|refine nq ?_|refine wq U ?_)
        refine wg U ?_
        refine wr U (rd_add U rfl rfl (by omega) (by omega)) rfl rfl ?_
        refine wr U ((rm U).to (v' := (.int .i64 (((i : Nat) : Int) + 1))) rfl) rfl rfl ?_
        refine wz U ?_
        repeat (first|refine nt ?_|refine nq ?_)
        exact ⟨l.length - (i + 1), by omega, i + 1, _, by omega, rfl, ⟨rfl, rfl, rfl, rfl, rfl, rfl, rfl, trivial⟩, hF5, hJ5.congr (SS.round hi1), hk5, rfl⟩
    · replace hci := of_decide_eq_false hci
      refine wc_exit U ?_
      repeat (first|refine xt ?_|refine xps (by decide) ?_)
      refine xbl ?_
      repeat (first|refine nt ?_|refine nq ?_)
      obtain rfl : i = l.length := by omega
      have hstp : Stp F F4 x ks := Stp.of hS.fok hS.len hx hpm hTk (by rw [hF1, hl]; exact hJ4)
      have hS4 := hS.next hstp l hlm (by rw [← hl]; exact sortN_strict hnd)
      repeat (first|refine nt ?_|refine nq ?_|refine wq U ?_)
      refine wg U ?_
      refine wr U ((rm U).to (v' := (.slice (some ⟨b, 0, none⟩) n n)) rfl) rfl rfl ?_
      refine wl_op U rfl rfl (op_call U Tryz.f90 rfl rfl pf_90 (by kernel_rfl) (by kernel_rfl) ((s90 U R b L n vs2 _ hn H4 NA (hF4.keep U hR (fun _ _ => rfl) (by omega))).mono U ?_))
      rintro _ _ _ ⟨⟨r, rfl, hr4⟩, rfl, rfl⟩
      refine wr U ((ra U).to (v' := (.int .i64 r)) rfl) rfl rfl ?_
      refine wz U ?_
      repeat (first|refine nt ?_|refine nq ?_)
      refine ⟨n - (st ++ [(x, l)]).length, by simp; omega, wA, _, r, _, _, F4, vs2, rfl, ⟨rfl, rfl, rfl, rfl, trivial⟩, hr4, hF4.keep U hR (fun _ _ => rfl) (by omega), hS4, hstA.at U hltA (fun c h1 h2 => hk4 c h1), hvs3, by omega⟩
  · replace hck := of_decide_eq_false hck
    refine wc_exit U ?_
    repeat (first|refine xt ?_|refine xps (by decide) ?_)
    refine xbl ?_
    repeat (first|refine nt ?_|refine nq ?_)
    have hF0 : ∀ u, ¬ Alive F u := by
      rcases hr with ⟨_, h⟩ | ⟨v, ks, h, _⟩
      · rintro u ⟨ks, hk⟩; exact h u ks (by rw [← hS.len]; exact (List.getElem?_eq_some_iff.1 hk).1) hk
      · omega
    repeat (first|refine nt ?_|refine nq ?_|refine wq U ?_)
    refine wg U ?_
    refine wr U ((rm U).to (v' := ov) rfl) rfl rfl ?_
    refine wr U ((rm U).to (v' := (.int .i64 W)) rfl) rfl rfl ?_
    refine wr U ((ra U).to (v' := ov) rfl) rfl rfl ?_
    refine wr U ((ra U).to (v' := (.int .i64 W)) rfl) rfl rfl ?_
    refine wz U ?_
    refine wc_ret U ?_
    repeat (first|refine ret1 ?_|refine ret2 ?_)
    exact end2 U (.inl rfl) rfl (v := ov) (v' := (.int .i64 W)) rfl rfl ⟨ov, W, st, rfl, hS.steps hF0, (hst.hi (by omega)).rd U (fun b o h => (hlt2 b o (hiH_sub _ _ _ _ h)).1), hHR.trans hF.sub, by omega⟩
end Go.Proofs.YtdmodppoellbkaaGreat
namespace Go.Proofs.YtdmodppoellbkaaGreat
open Go Go.RowKit
variable (U : Cx)
theorem wc_drawH {n : Nat} {T : Tm} {H : Hp} {N : Nat} {Q : Post} {id : Nat} {ops : Array Oper} (hm : P.follows .mixedOrders = true) (h : WH U n ops H ops.size (Array.replicate ops.size false) T H N Q) : WC U n (.region id ops true) T H N Q := wc_draw U H hm h
theorem pow_lt {i : Nat} (h : i ≤ 60) : 2 ^ i < 4611686018427387904 := Nat.lt_of_le_of_lt (Nat.pow_le_pow_right (by omega) h) (by decide)
theorem encB_small {l : List Nat} {s : Nat → Bool} (h : l.length ≤ 60) : encB l s < 4611686018427387904 := Nat.lt_trans (encB_lt l s) (pow_lt h)
theorem u64_nat {k : Nat} (h : k ≤ 4611686018427387904) : IntKind.u64.wrap ((k : Nat) : Int) = ((k : Nat) : Int) := by simp [IntKind.wrap, IntKind.bits, IntKind.signed]; omega
theorem shr_nat (a k : Nat) : Value.int .i64 (((a : Nat) : Int) / 2 ^ Int.toNat ((k : Nat) : Int)) = .int .i64 (((a / 2 ^ k : Nat)) : Int) := by
  rw [Int.toNat_natCast]; congr 1
theorem shl_nat (k : Nat) : Value.int .i64 ((1 : Int) * 2 ^ Int.toNat ((k : Nat) : Int)) = .int .i64 (((2 ^ k : Nat)) : Int) := by
  rw [Int.toNat_natCast, Int.one_mul]; congr 1
theorem shl_lo (k : Nat) : -9223372036854775808 ≤ (1 : Int) * 2 ^ Int.toNat ((k : Nat) : Int) := by
  rw [Int.toNat_natCast, Int.one_mul]; have : (0 : Int) ≤ 2 ^ k := Int.le_of_lt (Int.pow_pos (by decide)); omega
theorem shl_hi {k : Nat} (h : k ≤ 60) : (1 : Int) * 2 ^ Int.toNat ((k : Nat) : Int) < 9223372036854775808 := by
  rw [Int.toNat_natCast, Int.one_mul]
  have h1 := pow_lt h
  have h2 : ((2 ^ k : Nat) : Int) = (2 : Int) ^ k := by norm_cast
  omega
theorem and_one (a : Nat) : Value.int .i64 (((a &&& 1 : Nat)) : Int) = .int .i64 (((a % 2 : Nat)) : Int) := by rw [Nat.and_one_is_mod]
theorem s115 (os is : List Nat) (s : Nat → Bool) (ov iv : Value) (hos : os.Pairwise (· < ·)) (hlo : os.length ≤ 60) (hli : is.length ≤ 60) (hb : ∀ x ∈ os, x < 1000000) (hsub : ∀ x ∈ is, x ∈ os) (H : Hp) (N : Nat) (ho : RdS U H ov 1 (nats os)) (hi : RdS U H iv 1 (nats is)) : Spec U 115 #[(.int .i64 ((encB os s : Nat) : Int)), ov, iv] H N (fun v H' N' => v = .int .i64 ((encB is s : Nat) : Int) ∧ H = H' ∧ N = N') := by
  obtain ⟨ip, icap, rfl, hic, hip⟩ := hi.nums U
  refine spa U pf_115 (m := 38) rfl rfl (by simp) fun hBN hlt => ?_
  obtain ⟨J, hJ⟩ := Has.ex (T := argsT #[(.int .i64 ((encB os s : Nat) : Int)), ov, (.slice ip is.length icap)]) (l := [(0, (.int .i64 ((encB os s : Nat) : Int))), (1, ov), (2, (.slice ip is.length icap))]) ⟨rfl, rfl, rfl, trivial⟩
  rw [hJ]; clear hJ
  repeat (first|refine nt ?_|refine nq ?_|refine wq U ?_)
  refine wg U ?_
  refine wr U ((ra U).to (v' := (.int .i64 0)) rfl) rfl rfl ?_
  refine wz U ?_
  repeat (first|refine nt ?_|refine nq ?_|refine wq U ?_)
  refine wg U ?_
  refine wr U ((ra U).to (v' := (.int .i64 0)) rfl) rfl rfl ?_
  refine wz U ?_
  repeat (first|refine nt ?_|refine nq ?_|refine wq U ?_)
  refine wg U ?_
  refine wr U ((rm U).to (v' := (.slice ip is.length icap)) rfl) rfl rfl ?_
  refine wr U ((rd_len' U sl_26 rfl).to (v' := (.int .i64 ((is.length : Nat) : Int))) rfl) rfl rfl ?_
  refine wr U ((rm U).to (v' := (.int .i64 0)) rfl) rfl rfl ?_
  refine wz U ?_
  repeat (first|refine nt ?_|refine nq ?_|refine wq U ?_)
  refine wc_block U ?_
  refine wc_loop U (fun m T H' N' => ∃ (i : Nat), i ≤ is.length ∧ m = is.length - i ∧ Has T [(0, (.int .i64 ((encB os s : Nat) : Int))), (1, ov), (2, (.slice ip is.length icap)), (7, (.int .i64 ((encB (is.take i) s : Nat) : Int))), (12, (.slice ip is.length icap)), (13, (.int .i64 ((is.length : Nat) : Int))), (14, (.int .i64 ((i : Nat) : Int)))] ∧ H = H' ∧ N = N') is.length ⟨0, Nat.zero_le _, rfl, ⟨rfl, rfl, rfl, rfl, rfl, rfl, rfl, trivial⟩, rfl, rfl⟩ ?_
  rintro m T _ _ ⟨i, hii, rfl, hT, rfl, rfl⟩
  obtain ⟨J, rfl⟩ := hT.ex
  repeat (first|refine nt ?_|refine nq ?_|refine wq U ?_)
  refine wg U ?_
  refine wr U (rd_lss U rfl rfl) rfl rfl ?_
  refine wz U ?_
  repeat (first|refine nt ?_|refine nq ?_|refine wq U ?_)
  refine wcd U (t := (decide (((i : Nat) : Int) < ((is.length : Nat) : Int)))) rfl (fun hck => ?_) fun hck => ?_
  · replace hck := of_decide_eq_true hck
    refine wsk U ?_
    repeat (first|refine nt ?_|refine nq ?_)
    have hi1 : i < is.length := by omega
    obtain ⟨ib, ioff, rfl⟩ := hip (by omega)
    repeat (first|refine nt ?_|refine nq ?_|refine wq U ?_)
    refine wc_block U ?_
    repeat (first|refine nt ?_|refine nq ?_|refine wq U ?_)
    refine wg U ?_
    refine wr U ((rm U).to (v' := (.int .i64 ((i : Nat) : Int))) rfl) rfl rfl ?_
    refine wr U (rd_idx1 U (j := i) sl_26 rfl rfl (by omega)) rfl rfl ?_
    refine wr U (rl1 U el_3 rfl (v := (.int .i64 ((is[i] : Nat) : Int))) (hi.n0 U hi1)) rfl rfl ?_
    refine wr U ((ra U).to (v' := (.int .i64 ((i : Nat) : Int))) rfl) rfl rfl ?_
    refine wr U ((ra U).to (v' := (.int .i64 ((is[i] : Nat) : Int))) rfl) rfl rfl ?_
    refine wz U ?_
    obtain ⟨k, hk, hkx⟩ := List.mem_iff_getElem.1 (hsub _ (List.getElem_mem hi1))
    have hs96 := s96 U os ov k hk hos (by omega) hb H N ho
    rw [hkx] at hs96
    repeat (first|refine nt ?_|refine nq ?_|refine wq U ?_)
    refine wg U ?_
    refine wr U ((rm U).to (v' := ov) rfl) rfl rfl ?_
    refine wr U ((rm U).to (v' := (.int .i64 ((is[i] : Nat) : Int))) rfl) rfl rfl ?_
    refine wl_op U rfl rfl (op_call U Tryz.f96 rfl rfl pf_96 (by kernel_rfl) (by kernel_rfl) ((hs96).mono U ?_))
    rintro _ _ _ ⟨rfl, rfl, rfl⟩
    refine wr U ((rm U).to (v' := (.tuple #[(.int .i64 ((k : Nat) : Int)), (.bool true)])) rfl) rfl rfl ?_
    refine wr U ((rd_extract U rfl rfl).to (v' := (.int .i64 ((k : Nat) : Int))) rfl) rfl rfl ?_
    refine wr U ((rd_extract U rfl rfl).to (v' := (.bool true)) rfl) rfl rfl ?_
    refine wr U ((ra U).to (v' := (.int .i64 ((k : Nat) : Int))) rfl) rfl rfl ?_
    refine wr U ((ra U).to (v' := (.bool true)) rfl) rfl rfl ?_
    refine wz U ?_
    have hke : encB os s / 2 ^ k % 2 = if s is[i] then 1 else 0 := by rw [← hkx]; exact encB_shift os s hk
    have hsm := encB_small (s := s) hlo
    have hdm : encB os s / 2 ^ k ≤ encB os s := Nat.div_le_self _ _
    repeat (first|refine nt ?_|refine nq ?_|refine wq U ?_)
    refine wg U ?_
    refine wr U ((rm U).to (v' := (.int .i64 ((encB os s : Nat) : Int))) rfl) rfl rfl ?_
    refine wr U ((rm U).to (v' := (.int .i64 ((k : Nat) : Int))) rfl) rfl rfl ?_
    refine wr U ((rd_conv U u_3 u_77 rfl).to (v' := (.int .u64 ((k : Nat) : Int))) (congrArg _ (u64_nat (by omega)))) rfl rfl ?_
    refine wr U ((rd_shr U rfl rfl (by omega) (by omega)).to (v' := (.int .i64 ((encB os s / 2 ^ k : Nat) : Int))) (shr_nat _ _)) rfl rfl ?_
    refine wr U ((rd_bits U (.inl rfl) rfl rfl (bits_and (b := 1) (by omega) (by decide))).to (v' := (.int .i64 ((encB os s / 2 ^ k % 2 : Nat) : Int))) (and_one _)) rfl rfl ?_
    refine wr U (rd_eql U rfl rfl) rfl rfl ?_
    refine wz U ?_
    repeat (first|refine nt ?_|refine nq ?_|refine wq U ?_)
    refine wcd U (t := (decide (((encB os s / 2 ^ k % 2 : Nat) : Int) = 1))) rfl (fun he => ?_) fun he => ?_
    · replace he := of_decide_eq_true he
      have hsi : s is[i] = true := by by_cases h : s is[i] = true; exact h; rw [if_neg h] at hke; omega
      have hlt2 := encB_lt (is.take i) s
      rw [List.length_take, Nat.min_eq_left (by omega)] at hlt2
      have hp2 := pow_lt (i := i) (by omega)
      repeat (first|refine nt ?_|refine nq ?_|refine wq U ?_)
      refine wg U ?_
      refine wr U ((rm U).to (v' := (.int .i64 ((encB (is.take i) s : Nat) : Int))) rfl) rfl rfl ?_
      refine wr U ((rm U).to (v' := (.int .i64 ((i : Nat) : Int))) rfl) rfl rfl ?_
      refine wr U ((rd_conv U u_3 u_77 rfl).to (v' := (.int .u64 ((i : Nat) : Int))) (congrArg _ (u64_nat (by omega)))) rfl rfl ?_
      refine wr U ((rd_shl U rfl rfl (by omega) (by omega) (shl_lo _) (shl_hi (by omega))).to (v' := (.int .i64 ((2 ^ i : Nat) : Int))) (shl_nat _)) rfl rfl ?_
      refine wr U ((rd_bits U (.inr rfl) rfl rfl (bits_or (by omega) (by omega))).to (v' := (.int .i64 ((encB (is.take (i + 1)) s : Nat) : Int))) (by rw [or_bit hlt2, encB_take is s hi1, if_pos hsi])) rfl rfl ?_
      refine wr U ((ra U).to (v' := (.int .i64 ((encB (is.take (i + 1)) s : Nat) : Int))) rfl) rfl rfl ?_
      refine wz U ?_
      repeat (first|refine nt ?_|refine nq ?_)
      repeat (first|refine nt ?_|refine nq ?_|refine wq U ?_)
      refine wg U ?_
      refine wr U (rd_add U rfl rfl (by omega) (by omega)) rfl rfl ?_
      refine wr U ((rm U).to (v' := (.int .i64 (((i : Nat) : Int) + 1))) rfl) rfl rfl ?_
      refine wz U ?_
      repeat (first|refine nt ?_|refine nq ?_)
      exact ⟨is.length - (i + 1), by omega, i + 1, by omega, rfl, ⟨rfl, rfl, rfl, rfl, rfl, rfl, rfl, trivial⟩, rfl, rfl⟩
    · replace he := of_decide_eq_false he
      have hsi : ¬ s is[i] = true := fun h => by rw [if_pos h] at hke; omega
      have hst : encB (is.take i) s = encB (is.take (i + 1)) s := by rw [encB_take is s hi1, if_neg hsi]; rfl
      refine wsk U ?_
      repeat (first|refine nt ?_|refine nq ?_)
      repeat (first|refine nt ?_|refine nq ?_|refine wq U ?_)
      refine wg U ?_
      refine wr U (rd_add U rfl rfl (by omega) (by omega)) rfl rfl ?_
      refine wr U ((rm U).to (v' := (.int .i64 (((i : Nat) : Int) + 1))) rfl) rfl rfl ?_
      refine wz U ?_
      repeat (first|refine nt ?_|refine nq ?_)
      exact ⟨is.length - (i + 1), by omega, i + 1, by omega, rfl, ⟨rfl, rfl, rfl, by rw [← hst]; rfl, rfl, rfl, rfl, trivial⟩, rfl, rfl⟩
  · replace hck := of_decide_eq_false hck
    refine wc_exit U ?_
    repeat (first|refine xt ?_|refine xps (by decide) ?_)
    refine xbl ?_
    repeat (first|refine nt ?_|refine nq ?_)
    have hil : i = is.length := by omega
    repeat (first|refine nt ?_|refine nq ?_|refine wq U ?_)
    refine wg U ?_
    refine wr U ((rm U).to (v' := (.int .i64 ((encB (is.take i) s : Nat) : Int))) rfl) rfl rfl ?_
    refine wr U ((ra U).to (v' := (.int .i64 ((encB (is.take i) s : Nat) : Int))) rfl) rfl rfl ?_
    refine wz U ?_
    refine wc_ret U ?_
    repeat (first|refine ret1 ?_|refine ret2 ?_)
    exact end1 U (.inl rfl) rfl (v := (.int .i64 ((encB (is.take i) s : Nat) : Int))) rfl ⟨by rw [hil, List.take_length], rfl, rfl⟩
/-- The cells of a list of tables. -/
def ttc : List (Value × Value) → List Value
  | u :: us => u.1 :: u.2 :: ttc us
  | [] => []
theorem ttc_length : ∀ us : List (Value × Value), (ttc us).length = us.length * 2
  | [] => rfl
  | u :: us => by simp only [ttc, List.length_cons, ttc_length us]; omega
theorem ttc_append : ∀ us ws : List (Value × Value), ttc (us ++ ws) = ttc us ++ ttc ws
  | [], _ => rfl
  | u :: us, ws => by simp only [ttc, List.cons_append, ttc_append us ws]
theorem ttc_get : ∀ {us : List (Value × Value)} {i : Nat} {u : Value × Value}, us[i]? = some u → (ttc us)[i * 2]? = some u.1 ∧ (ttc us)[i * 2 + 1]? = some u.2
  | [], i, u, h => by simp at h
  | a :: us, 0, u, h => by simp at h; subst h; exact ⟨rfl, rfl⟩
  | a :: us, i + 1, u, h => by
    have := ttc_get (us := us) (i := i) (u := u) (by simpa using h)
    rw [show (i + 1) * 2 = i * 2 + 1 + 1 by omega]
    simpa [ttc] using this
/-- Tables, each told by two slices. -/
def TbV (F : Hp) (us : List (Value × Value)) (ts : List Tab) : Prop := us.length = ts.length ∧ ∀ (i : Nat) (u : Value × Value) (t : Tab), us[i]? = some u → ts[i]? = some t → RdS U F u.1 1 (nats t.1) ∧ RdS U F u.2 1 (nats t.2)
theorem TbV.sub {F H : Hp} {us : List (Value × Value)} {ts : List Tab} (h : TbV U F us ts) (hs : Sub F H) : TbV U H us ts := ⟨h.1, fun i u t hu ht => ⟨(h.2 i u t hu ht).1.sub U hs, (h.2 i u t hu ht).2.sub U hs⟩⟩
theorem tv_get {t : Tab} {s : Nat → Bool} (h : encB t.1 s < t.2.length) : tv t s = t.2[encB t.1 s] := by simp [tv, List.getD_eq_getElem?_getD, h]
theorem sumT_take_le (ts : List Tab) (s : Nat → Bool) (k : Nat) : sumT (ts.take k) s ≤ sumT ts s := by
  have := sumT_append (ts.take k) (ts.drop k) s
  rw [List.take_append_drop] at this; omega
theorem sumT_succ (ts : List Tab) (s : Nat → Bool) {k : Nat} (h : k < ts.length) : sumT (ts.take (k + 1)) s = sumT (ts.take k) s + tv ts[k] s := by
  rw [List.take_succ_eq_append_getElem h, sumT_append]; simp [sumT]
theorem s97 (os : List Nat) (s : Nat → Bool) (ov tv0 : Value) (us : List (Value × Value)) (ts : List Tab) (hos : os.Pairwise (· < ·)) (hlo : os.length ≤ 60) (hb : ∀ x ∈ os, x < 1000000) (htl : ∀ t ∈ ts, t.2.length = 2 ^ t.1.length ∧ t.1.length ≤ 60) (hsub : ∀ t ∈ ts, ∀ x ∈ t.1, x ∈ os) (hsum : sumT ts s ≤ 1000) (htn : ts.length ≤ 1000) (H : Hp) (N : Nat) (ho : RdS U H ov 1 (nats os)) (ht : RdS U H tv0 2 (ttc us)) (hts : TbV U H us ts) : Spec U 97 #[(.int .i64 ((encB os s : Nat) : Int)), ov, tv0] H N (fun v H' N' => v = .int .i64 ((sumT ts s : Nat) : Int) ∧ Sub H H' ∧ N ≤ N') := by
  obtain ⟨tp, tk, tcap, rfl, htc, htk, htp⟩ := ht.out U
  obtain rfl : tk = us.length := by rw [ttc_length] at htk; omega
  refine spa U pf_97 (m := 33) rfl rfl (by simp) fun hBN hlt => ?_
  obtain ⟨J, hJ⟩ := Has.ex (T := argsT #[(.int .i64 ((encB os s : Nat) : Int)), ov, (.slice tp us.length tcap)]) (l := [(0, (.int .i64 ((encB os s : Nat) : Int))), (1, ov), (2, (.slice tp us.length tcap))]) ⟨rfl, rfl, rfl, trivial⟩
  rw [hJ]; clear hJ
  have hul := hts.1
  repeat (first|refine nt ?_|refine nq ?_|refine wq U ?_)
  refine wg U ?_
  refine wr U ((ra U).to (v' := (.int .i64 0)) rfl) rfl rfl ?_
  refine wz U ?_
  repeat (first|refine nt ?_|refine nq ?_|refine wq U ?_)
  refine wg U ?_
  refine wr U ((ra U).to (v' := (.int .i64 0)) rfl) rfl rfl ?_
  refine wz U ?_
  repeat (first|refine nt ?_|refine nq ?_|refine wq U ?_)
  refine wg U ?_
  refine wr U ((rm U).to (v' := (.slice tp us.length tcap)) rfl) rfl rfl ?_
  refine wr U ((rd_len' U sl_98 rfl).to (v' := (.int .i64 ((us.length : Nat) : Int))) rfl) rfl rfl ?_
  refine wr U ((rm U).to (v' := (.int .i64 0)) rfl) rfl rfl ?_
  refine wz U ?_
  repeat (first|refine nt ?_|refine nq ?_|refine wq U ?_)
  refine wc_block U ?_
  refine wc_loop U (fun m T H' N' => ∃ (i : Nat), i ≤ us.length ∧ m = us.length - i ∧ Has T [(0, (.int .i64 ((encB os s : Nat) : Int))), (1, ov), (2, (.slice tp us.length tcap)), (7, (.int .i64 ((sumT (ts.take i) s : Nat) : Int))), (11, (.slice tp us.length tcap)), (12, (.int .i64 ((us.length : Nat) : Int))), (13, (.int .i64 ((i : Nat) : Int)))] ∧ Sub H H' ∧ N ≤ N') us.length ⟨0, Nat.zero_le _, rfl, ⟨rfl, rfl, rfl, rfl, rfl, rfl, rfl, trivial⟩, Sub.refl _, Nat.le_refl _⟩ ?_
  rintro m T H2 N2 ⟨i, hii, rfl, hT, hs2, hN2⟩
  obtain ⟨J, rfl⟩ := hT.ex
  refine wc_own U fun hBN2 hlt2 => ?_
  repeat (first|refine nt ?_|refine nq ?_|refine wq U ?_)
  refine wg U ?_
  refine wr U (rd_lss U rfl rfl) rfl rfl ?_
  refine wz U ?_
  repeat (first|refine nt ?_|refine nq ?_|refine wq U ?_)
  refine wcd U (t := (decide (((i : Nat) : Int) < ((us.length : Nat) : Int)))) rfl (fun hck => ?_) fun hck => ?_
  · replace hck := of_decide_eq_true hck
    refine wsk U ?_
    repeat (first|refine nt ?_|refine nq ?_)
    have hi1 : i < us.length := by omega
    obtain ⟨tb, toff, rfl⟩ := htp (by omega)
    repeat (first|refine nt ?_|refine nq ?_|refine wq U ?_)
    refine wc_block U ?_
    have hi2 : i < ts.length := by omega
    obtain ⟨u, hu⟩ := get_ex hi1
    have hti := List.getElem?_eq_getElem hi2
    obtain ⟨hr1, hr2⟩ := hts.2 i u _ hu hti
    obtain ⟨u1, u2⟩ := u
    obtain ⟨p1, c1, rfl, hc1, hp1⟩ := hr1.nums U
    obtain ⟨p2, c2, rfl, hc2, hp2⟩ := hr2.nums U
    obtain ⟨hg1, hg2⟩ := ttc_get hu
    have htm : ts[i] ∈ ts := List.getElem_mem hi2
    obtain ⟨hl2, hl1⟩ := htl _ htm
    have hlt3 := encB_lt ts[i].1 s
    obtain ⟨b2, off2, rfl⟩ := hp2 (by rw [hl2]; exact Nat.two_pow_pos _)
    have ht2 := ht.sub U hs2
    repeat (first|refine nt ?_|refine nq ?_|refine wq U ?_)
    refine wg U ?_
    refine wr U (rd_idxN U (j := i) sl_98 rfl rfl (by omega)) rfl rfl ?_
    refine wr U (rd_load2 U el_139 rfl (v0 := (.slice p1 (ts[i].1.length) c1)) (v1 := (.slice (some ⟨b2, off2, none⟩) (ts[i].2.length) c2))  (ht2.get U hg1) (ht2.get U hg2)) rfl rfl ?_
    refine wl_op U rfl rfl (op_alloc U z_139 rfl ?_)
    refine wl_op0 U rfl (op_store U (vs := [(.slice p1 (ts[i].1.length) c1), (.slice (some ⟨b2, off2, none⟩) (ts[i].2.length) c2)]) (cs := [(.slice none 0 0), (.slice none 0 0)]) el_139 rfl rfl rfl rfl (one2 rfl rfl) (by first|(rw [hsy]; done) | (rw [hsy]; rfl)) (by omega) (by simp) ?_)
    refine wz U ?_
    repeat (first|refine nt ?_|refine nq ?_)
    refine wc_gen U (fun R => R N2 = some (.row 139 0 [(.slice p1 (ts[i].1.length) c1), (.slice (some ⟨b2, off2, none⟩) (ts[i].2.length) c2)] 2) ∧ Sub _ R) ⟨(by first|(rw [hsy]; done) | (rw [hsy]; rfl)), (((Sub.refl _).hset (fresh hlt2 (by omega))).hset (fresh hlt2 (by omega)))⟩ ?_
    rintro H3 ⟨hx_1, hs3⟩ hBNH3 hltH3
    have hsX := hs2.trans hs3
    repeat (first|refine nt ?_|refine nq ?_|refine wq U ?_)
    refine wc_drawH U mixed ?_
    have hix : encB ts[i].1 s < ts[i].2.length := by rw [hl2]; exact hlt3
    refine wh_rd U 0 rfl ((rfa U fb_139_1 rfl).to (v' := (.pointer (some ⟨N2, 1, none⟩))) rfl) (by kernel_rfl) (by kernel_rfl) (by kernel_rfl) rfl rfl (Sub.refl _) ?_
    refine wh_rd U 1 rfl (rl1 U el_26 rfl (v := (.slice (some ⟨b2, off2, none⟩) (ts[i].2.length) c2)) (by rw [rrw U (by omega) hx_1]; rfl)) (by kernel_rfl) (by kernel_rfl) (by kernel_rfl) rfl rfl (Sub.refl _) ?_
    refine wh_rd U 2 rfl ((rm U).to (v' := (.int .i64 ((encB os s : Nat) : Int))) rfl) (by kernel_rfl) (by kernel_rfl) (by kernel_rfl) rfl rfl (Sub.refl _) ?_
    refine wh_rd U 3 rfl ((rm U).to (v' := ov) rfl) (by kernel_rfl) (by kernel_rfl) (by kernel_rfl) rfl rfl (Sub.refl _) ?_
    refine wh_rd U 4 rfl ((rfa U fb_139_0 rfl).to (v' := (.pointer (some ⟨N2, 0, none⟩))) rfl) (by kernel_rfl) (by kernel_rfl) (by kernel_rfl) rfl rfl (Sub.refl _) ?_
    refine wh_rd U 5 rfl (rl1 U el_26 rfl (v := (.slice p1 (ts[i].1.length) c1)) (by rw [rrw U (by omega) hx_1]; rfl)) (by kernel_rfl) (by kernel_rfl) (by kernel_rfl) rfl rfl (Sub.refl _) ?_
    skip
    refine wh_op U 6 (by kernel_rfl) rfl rfl rfl (op_call U Tryz.f115 rfl rfl pf_115 (by kernel_rfl) (by kernel_rfl) ((s115 U os ts[i].1 s ov _ hos hlo hl1 hb (hsub _ htm) _ _ (ho.sub U hsX) (hr1.sub U hsX)).mono U ?_))
    rintro _ _ _ ⟨rfl, rfl, rfl⟩
    refine ⟨(Sub.refl _), ?_⟩
    refine wh_rd U 7 rfl (rd_idx1 U (j := encB ts[i].1 s) sl_26 rfl rfl hix) (by kernel_rfl) (by kernel_rfl) (by kernel_rfl) rfl rfl (Sub.refl _) ?_
    refine wh_rd U 8 rfl (rl1 U el_3 rfl (v := (.int .i64 ((tv ts[i] s : Nat) : Int))) (by have := (hr2.sub U hsX).n0 U hix; rw [tv_get hix]; exact this)) (by kernel_rfl) (by kernel_rfl) (by kernel_rfl) rfl rfl (Sub.refl _) ?_
    refine wh_rd U 9 rfl ((ra U).to (v' := (.int .i64 ((tv ts[i] s : Nat) : Int))) rfl) (by kernel_rfl) (by kernel_rfl) (by kernel_rfl) rfl rfl (Sub.refl _) ?_
    refine wh_done U (by kernel_rfl) ?_
    repeat (first|refine nt ?_|refine nq ?_|refine wq U ?_)
    refine wg U ?_
    refine wr U ((rm U).to (v' := (.int .i64 ((tv ts[i] s : Nat) : Int))) rfl) rfl rfl ?_
    refine wr U (rd_lss U rfl rfl) rfl rfl ?_
    refine wz U ?_
    repeat (first|refine nt ?_|refine nq ?_|refine wq U ?_)
    refine wcd U (t := (decide (((tv ts[i] s : Nat) : Int) < 0))) rfl (fun h => absurd h (by rw [(decide_eq_false (by omega))]; decide)) fun _ => ?_
    refine wsk U ?_
    repeat (first|refine nt ?_|refine nq ?_)
    have hsm := sumT_succ ts s hi2
    have hsl := sumT_take_le ts s (i + 1)
    repeat (first|refine nt ?_|refine nq ?_|refine wq U ?_)
    refine wg U ?_
    refine wr U ((rm U).to (v' := (.int .i64 ((sumT (ts.take i) s : Nat) : Int))) rfl) rfl rfl ?_
    refine wr U ((rm U).to (v' := (.int .i64 ((tv ts[i] s : Nat) : Int))) rfl) rfl rfl ?_
    refine wr U ((rd_add U rfl rfl (by omega) (by omega)).to (v' := (.int .i64 ((sumT (ts.take (i + 1)) s : Nat) : Int))) (by rw [hsm]; congr 1)) rfl rfl ?_
    refine wr U ((ra U).to (v' := (.int .i64 ((sumT (ts.take (i + 1)) s : Nat) : Int))) rfl) rfl rfl ?_
    refine wz U ?_
    repeat (first|refine nt ?_|refine nq ?_)
    repeat (first|refine nt ?_|refine nq ?_|refine wq U ?_)
    refine wg U ?_
    refine wr U (rd_add U rfl rfl (by omega) (by omega)) rfl rfl ?_
    refine wr U ((rm U).to (v' := (.int .i64 (((i : Nat) : Int) + 1))) rfl) rfl rfl ?_
    refine wz U ?_
    repeat (first|refine nt ?_|refine nq ?_)
    exact ⟨us.length - (i + 1), by omega, i + 1, by omega, rfl, ⟨rfl, rfl, rfl, rfl, rfl, rfl, rfl, trivial⟩, hsX, by omega⟩
  · replace hck := of_decide_eq_false hck
    refine wc_exit U ?_
    repeat (first|refine xt ?_|refine xps (by decide) ?_)
    refine xbl ?_
    repeat (first|refine nt ?_|refine nq ?_)
    have hil : i = ts.length := by omega
    repeat (first|refine nt ?_|refine nq ?_|refine wq U ?_)
    refine wg U ?_
    refine wr U ((rm U).to (v' := (.int .i64 ((sumT (ts.take i) s : Nat) : Int))) rfl) rfl rfl ?_
    refine wr U ((ra U).to (v' := (.int .i64 ((sumT (ts.take i) s : Nat) : Int))) rfl) rfl rfl ?_
    refine wz U ?_
    refine wc_ret U ?_
    repeat (first|refine ret1 ?_|refine ret2 ?_)
    exact end1 U (.inl rfl) rfl (v := (.int .i64 ((sumT (ts.take i) s : Nat) : Int))) rfl ⟨by rw [hil, List.take_length], hs2, hN2⟩
end Go.Proofs.YtdmodppoellbkaaGreat
namespace Go.Proofs.YtdmodppoellbkaaGreat
open Go Go.RowKit
variable (U : Cx)
theorem s98 (n : Nat) (E : List NE) (hg : GOk n E) (sb : Nat) (nv tv0 dv : Value) (x : Nat) (is : List Nat) (s : Nat → Bool) (iv : Value) (hxn : x < n) (hli : is.length ≤ 60) (H : Hp) (N : Nat) (hsb : H sb = some (.row 101 0 [nv, tv0, dv] 3)) (hnr : Rd2 U H nv (nearL n E)) (hi : RdS U H iv 1 (nats is)) : Spec U 98 #[(.pointer (some ⟨sb, 0, none⟩)), (.int .i64 ((x : Nat) : Int)), (.int .i64 ((encB is s : Nat) : Int)), iv] H N (fun v H' N' => (∃ b : Bool, v = .bool b ∧ (b = true ↔ ∀ u ∈ is, s u = true → ¬ adj E x u)) ∧ H = H' ∧ N = N') := by
  obtain ⟨ip, icap, rfl, hic, hip⟩ := hi.nums U
  obtain ⟨np, ncap, us, rfl, hnp, hnus, hnv⟩ := hnr.open U
  obtain ⟨nb, noff, rfl⟩ := hnp (by rw [nearL_length]; omega)
  obtain ⟨xv, hxv⟩ := get_ex (l := us) (i := x) (by rw [hnv.1, nearL_length]; exact hxn)
  obtain ⟨xs, hxs⟩ := get_ex (l := nearL n E) (i := x) (by rw [nearL_length]; exact hxn)
  have hxr := hnv.2 x xv xs hxv hxs
  have hxm : ∀ y, y ∈ xs ↔ adj E x y := fun y => by have := nearL_mem hg x y; rw [List.getD_eq_getElem?_getD, hxs] at this; exact this
  have hxl : xs.length ≤ n := nodup_len n xs (near_nodup hg xs (List.mem_of_getElem? hxs)) (fun y hy => (hg.adj_lt ((hxm y).1 hy)).2.1)
  have hn := hg.hn
  refine spa U pf_98 (m := 36) rfl rfl (by simp) fun hBN hlt => ?_
  obtain ⟨J, hJ⟩ := Has.ex (T := argsT #[(.pointer (some ⟨sb, 0, none⟩)), (.int .i64 ((x : Nat) : Int)), (.int .i64 ((encB is s : Nat) : Int)), (.slice ip is.length icap)]) (l := [(0, (.pointer (some ⟨sb, 0, none⟩))), (1, (.int .i64 ((x : Nat) : Int))), (2, (.int .i64 ((encB is s : Nat) : Int))), (3, (.slice ip is.length icap))]) ⟨rfl, rfl, rfl, rfl, trivial⟩
  rw [hJ]; clear hJ
  have hsbB := (hlt _ _ hsb).1
  repeat (first|refine nt ?_|refine nq ?_|refine wq U ?_)
  refine wg U ?_
  refine wr U ((ra U).to (v' := (.bool false)) rfl) rfl rfl ?_
  refine wz U ?_
  repeat (first|refine nt ?_|refine nq ?_|refine wq U ?_)
  refine wg U ?_
  refine wr U ((rm U).to (v' := (.slice ip is.length icap)) rfl) rfl rfl ?_
  refine wr U ((rd_len' U sl_26 rfl).to (v' := (.int .i64 ((is.length : Nat) : Int))) rfl) rfl rfl ?_
  refine wr U ((rm U).to (v' := (.int .i64 0)) rfl) rfl rfl ?_
  refine wz U ?_
  repeat (first|refine nt ?_|refine nq ?_|refine wq U ?_)
  refine wc_block U ?_
  refine wc_loop U (fun m T H' N' => ∃ (i : Nat), i ≤ is.length ∧ m = is.length - i ∧ Has T [(0, (.pointer (some ⟨sb, 0, none⟩))), (1, (.int .i64 ((x : Nat) : Int))), (2, (.int .i64 ((encB is s : Nat) : Int))), (11, (.slice ip is.length icap)), (12, (.int .i64 ((is.length : Nat) : Int))), (13, (.int .i64 ((i : Nat) : Int)))] ∧ (∀ u ∈ is.take i, s u = true → ¬ adj E x u) ∧ H = H' ∧ N = N') is.length ⟨0, Nat.zero_le _, rfl, ⟨rfl, rfl, rfl, rfl, rfl, rfl, trivial⟩, by simp, rfl, rfl⟩ ?_
  rintro m T _ _ ⟨i, hii, rfl, hT, hno, rfl, rfl⟩
  obtain ⟨J, rfl⟩ := hT.ex
  repeat (first|refine nt ?_|refine nq ?_|refine wq U ?_)
  refine wg U ?_
  refine wr U (rd_lss U rfl rfl) rfl rfl ?_
  refine wz U ?_
  repeat (first|refine nt ?_|refine nq ?_|refine wq U ?_)
  refine wcd U (t := (decide (((i : Nat) : Int) < ((is.length : Nat) : Int)))) rfl (fun hck => ?_) fun hck => ?_
  · replace hck := of_decide_eq_true hck
    refine wsk U ?_
    repeat (first|refine nt ?_|refine nq ?_)
    have hi1 : i < is.length := by omega
    obtain ⟨ib, ioff, rfl⟩ := hip (by omega)
    repeat (first|refine nt ?_|refine nq ?_|refine wq U ?_)
    refine wc_block U ?_
    repeat (first|refine nt ?_|refine nq ?_|refine wq U ?_)
    refine wg U ?_
    refine wr U ((rm U).to (v' := (.int .i64 ((i : Nat) : Int))) rfl) rfl rfl ?_
    refine wr U (rd_idx1 U (j := i) sl_26 rfl rfl (by omega)) rfl rfl ?_
    refine wr U (rl1 U el_3 rfl (v := (.int .i64 ((is[i] : Nat) : Int))) (hi.n0 U hi1)) rfl rfl ?_
    refine wr U ((ra U).to (v' := (.int .i64 ((i : Nat) : Int))) rfl) rfl rfl ?_
    refine wr U ((ra U).to (v' := (.int .i64 ((is[i] : Nat) : Int))) rfl) rfl rfl ?_
    refine wz U ?_
    have hke : encB is s / 2 ^ i % 2 = if s is[i] then 1 else 0 := encB_shift is s hi1
    have hsm := encB_small (s := s) hli
    have hdm : encB is s / 2 ^ i ≤ encB is s := Nat.div_le_self _ _
    by_cases hsi : s is[i] = true
    · rw [if_pos hsi] at hke
      repeat (first|refine nt ?_|refine nq ?_|refine wq U ?_)
      refine wg U ?_
      refine wr U ((rm U).to (v' := (.int .i64 ((encB is s : Nat) : Int))) rfl) rfl rfl ?_
      refine wr U ((rm U).to (v' := (.int .i64 ((i : Nat) : Int))) rfl) rfl rfl ?_
      refine wr U ((rd_conv U u_3 u_77 rfl).to (v' := (.int .u64 ((i : Nat) : Int))) (congrArg _ (u64_nat (by omega)))) rfl rfl ?_
      refine wr U ((rd_shr U rfl rfl (by omega) (by omega)).to (v' := (.int .i64 ((encB is s / 2 ^ i : Nat) : Int))) (shr_nat _ _)) rfl rfl ?_
      refine wr U ((rd_bits U (.inl rfl) rfl rfl (bits_and (b := 1) (by omega) (by decide))).to (v' := (.int .i64 ((encB is s / 2 ^ i % 2 : Nat) : Int))) (and_one _)) rfl rfl ?_
      refine wr U ((rd_eql U rfl rfl).to (v' := (.bool true)) (congrArg Value.bool (decide_eq_true (by omega)))) rfl rfl ?_
      refine wr U ((rm U).to (v' := (.bool true)) rfl) rfl rfl ?_
      refine wr U ((rm U).to (v' := (.pointer (some ⟨sb, 0, none⟩))) rfl) rfl rfl ?_
      refine wr U (rd_nilCheck U rfl) rfl rfl ?_
      refine wr U ((rfa U fb_101_0 rfl).to (v' := (.pointer (some ⟨sb, 0, none⟩))) rfl) rfl rfl ?_
      refine wr U (rl1 U el_25 rfl (v := (.slice (some ⟨nb, noff, none⟩) ((nearL n E).length) ncap)) (by rw [rrw U (by omega) hsb]; rfl)) rfl rfl ?_
      refine wr U ((rm U).to (v' := (.int .i64 ((x : Nat) : Int))) rfl) rfl rfl ?_
      refine wr U (rd_idx1 U (j := x) sl_25 rfl rfl (by rw [nearL_length]; exact hxn)) rfl rfl ?_
      refine wr U (rl1 U el_26 rfl (v := xv) (hnus.get U hxv)) rfl rfl ?_
      refine wr U ((rm U).to (v' := (.int .i64 ((is[i] : Nat) : Int))) rfl) rfl rfl ?_
      refine wl_op U rfl rfl (op_call U Tryz.f92 rfl rfl pf_92 (by kernel_rfl) (by kernel_rfl) ((s92 U xs xv is[i] (by omega) H N hxr).mono U ?_))
      rintro _ _ _ ⟨rfl, rfl, rfl⟩
      refine wr U ((rd_pick U rfl).to (v' := (.bool (decide (is[i] ∈ xs)))) rfl) rfl rfl ?_
      refine wz U ?_
      repeat (first|refine nt ?_|refine nq ?_|refine wq U ?_)
      refine wcd U (t := (decide (is[i] ∈ xs))) rfl (fun hm => ?_) fun hm => ?_
      · replace hm := of_decide_eq_true hm
        repeat (first|refine nt ?_|refine nq ?_|refine wq U ?_)
        refine wg U ?_
        refine wr U ((ra U).to (v' := (.bool false)) rfl) rfl rfl ?_
        refine wz U ?_
        refine wc_ret U ?_
        repeat (first|refine ret1 ?_|refine ret2 ?_)
        exact end1 U (.inl rfl) rfl (v := (.bool false)) rfl ⟨⟨false, rfl, by simp; exact ⟨is[i], List.getElem_mem hi1, hsi, (hxm _).1 hm⟩⟩, rfl, rfl⟩
      · replace hm := of_decide_eq_false hm
        refine wsk U ?_
        repeat (first|refine nt ?_|refine nq ?_)
        repeat (first|refine nt ?_|refine nq ?_|refine wq U ?_)
        refine wg U ?_
        refine wr U (rd_add U rfl rfl (by omega) (by omega)) rfl rfl ?_
        refine wr U ((rm U).to (v' := (.int .i64 (((i : Nat) : Int) + 1))) rfl) rfl rfl ?_
        refine wz U ?_
        repeat (first|refine nt ?_|refine nq ?_)
        refine ⟨is.length - (i + 1), by omega, i + 1, by omega, rfl, ⟨rfl, rfl, rfl, rfl, rfl, rfl, trivial⟩, ?_, rfl, rfl⟩
        intro u hu hsu; rw [List.take_succ_eq_append_getElem hi1, List.mem_append, List.mem_singleton] at hu; rcases hu with hu | rfl; exact hno u hu hsu; exact fun ha => hm ((hxm _).2 ha)
    · rw [if_neg hsi] at hke
      repeat (first|refine nt ?_|refine nq ?_|refine wq U ?_)
      refine wg U ?_
      refine wr U ((rm U).to (v' := (.int .i64 ((encB is s : Nat) : Int))) rfl) rfl rfl ?_
      refine wr U ((rm U).to (v' := (.int .i64 ((i : Nat) : Int))) rfl) rfl rfl ?_
      refine wr U ((rd_conv U u_3 u_77 rfl).to (v' := (.int .u64 ((i : Nat) : Int))) (congrArg _ (u64_nat (by omega)))) rfl rfl ?_
      refine wr U ((rd_shr U rfl rfl (by omega) (by omega)).to (v' := (.int .i64 ((encB is s / 2 ^ i : Nat) : Int))) (shr_nat _ _)) rfl rfl ?_
      refine wr U ((rd_bits U (.inl rfl) rfl rfl (bits_and (b := 1) (by omega) (by decide))).to (v' := (.int .i64 ((encB is s / 2 ^ i % 2 : Nat) : Int))) (and_one _)) rfl rfl ?_
      refine wr U ((rd_eql U rfl rfl).to (v' := (.bool false)) (congrArg Value.bool (decide_eq_false (by omega)))) rfl rfl ?_
      refine wr U ((rm U).to (v' := (.bool false)) rfl) rfl rfl ?_
      refine wl_pass U rfl rfl ?_
      refine wl_pass U rfl rfl ?_
      refine wl_pass U rfl rfl ?_
      refine wl_pass U rfl rfl ?_
      refine wl_pass U rfl rfl ?_
      refine wl_pass U rfl rfl ?_
      refine wl_pass U rfl rfl ?_
      refine wl_pass U rfl rfl ?_
      refine wl_pass U rfl rfl ?_
      refine wr U ((rd_pick U rfl).to (v' := (.bool false)) rfl) rfl rfl ?_
      refine wz U ?_
      repeat (first|refine nt ?_|refine nq ?_|refine wq U ?_)
      refine wcd U (t := false) rfl (fun h => nomatch h) fun _ => ?_
      refine wsk U ?_
      repeat (first|refine nt ?_|refine nq ?_)
      repeat (first|refine nt ?_|refine nq ?_|refine wq U ?_)
      refine wg U ?_
      refine wr U (rd_add U rfl rfl (by omega) (by omega)) rfl rfl ?_
      refine wr U ((rm U).to (v' := (.int .i64 (((i : Nat) : Int) + 1))) rfl) rfl rfl ?_
      refine wz U ?_
      repeat (first|refine nt ?_|refine nq ?_)
      refine ⟨is.length - (i + 1), by omega, i + 1, by omega, rfl, ⟨rfl, rfl, rfl, rfl, rfl, rfl, trivial⟩, ?_, rfl, rfl⟩
      intro u hu hsu; rw [List.take_succ_eq_append_getElem hi1, List.mem_append, List.mem_singleton] at hu; rcases hu with hu | rfl; exact hno u hu hsu; exact absurd hsu hsi
  · replace hck := of_decide_eq_false hck
    refine wc_exit U ?_
    repeat (first|refine xt ?_|refine xps (by decide) ?_)
    refine xbl ?_
    repeat (first|refine nt ?_|refine nq ?_)
    rw [List.take_of_length_le (by omega)] at hno
    repeat (first|refine nt ?_|refine nq ?_|refine wq U ?_)
    refine wg U ?_
    refine wr U ((ra U).to (v' := (.bool true)) rfl) rfl rfl ?_
    refine wz U ?_
    refine wc_ret U ?_
    repeat (first|refine ret1 ?_|refine ret2 ?_)
    exact end1 U (.inl rfl) rfl (v := (.bool true)) rfl ⟨⟨true, rfl, by simpa using hno⟩, rfl, rfl⟩
end Go.Proofs.YtdmodppoellbkaaGreat
namespace Go.Proofs.YtdmodppoellbkaaGreat
def decN (near : List Nat) (c : Nat) : Nat → Bool := fun w => decide (w ∈ near) && c.testBit (near.idxOf w)
theorem encB_dec {near : List Nat} (hn : near.Nodup) {c : Nat} (hc : c < 2 ^ near.length) : encB near (decN near c) = c := by
  apply Nat.eq_of_testBit_eq
  intro i
  rcases Nat.lt_or_ge i near.length with hi | hi
  · rw [encB_bit _ _ hi]; simp [decN, idxOf_get hn hi]
  · rw [Nat.testBit_lt_two_pow (Nat.lt_of_lt_of_le (encB_lt _ _) (Nat.pow_le_pow_right (by omega) hi)), Nat.testBit_lt_two_pow (Nat.lt_of_lt_of_le hc (Nat.pow_le_pow_right (by omega) hi))]
theorem dec_enc {near : List Nat} {s : Nat → Bool} {v : Nat} (hv : v ∈ near) : decN near (encB near s) v = s v := by
  have h := List.idxOf_lt_length_of_mem hv
  have := encB_bit near s h
  rw [List.getElem_idxOf] at this
  simp [decN, hv, this]
theorem dec_out {near : List Nat} {c v : Nat} (hv : v ∉ near) : decN near c v = false := by simp [decN, hv]
theorem split_near : ∀ {near : List Nat} {v : Nat}, near.Pairwise (· < ·) → v ∉ near → ∃ a b, near = a ++ b ∧ (a ++ v :: b).Pairwise (· < ·)
  | [], v, _, _ => ⟨[], [], rfl, by simp⟩
  | x :: near, v, hs, hv => by
    rw [List.pairwise_cons] at hs
    simp only [List.mem_cons, not_or] at hv
    rcases Nat.lt_trichotomy v x with h | h | h
    · refine ⟨[], x :: near, rfl, ?_⟩
      rw [List.nil_append, List.pairwise_cons, List.pairwise_cons]
      exact ⟨fun y hy => by rcases List.mem_cons.1 hy with rfl | hy; exact h; have := hs.1 y hy; omega, hs⟩
    · exact absurd h hv.1
    · obtain ⟨a, b, h1, h2⟩ := split_near hs.2 hv.2
      refine ⟨x :: a, b, by rw [h1]; rfl, ?_⟩
      rw [List.cons_append, List.pairwise_cons]
      refine ⟨fun y hy => ?_, h2⟩
      rcases List.mem_append.1 hy with hy | hy
      · exact hs.1 y (by rw [h1]; simp [hy])
      · rcases List.mem_cons.1 hy with rfl | hy
        · exact h
        · exact hs.1 y (by rw [h1]; simp [hy])
theorem split_sort {near : List Nat} {v : Nat} (hs : near.Pairwise (· < ·)) (hv : v ∉ near) : ∃ a b, near = a ++ b ∧ sortN (near ++ [v]) = a ++ v :: b ∧ v ∉ a ∧ v ∉ b ∧ (a ++ v :: b).Pairwise (· < ·) := by
  obtain ⟨a, b, h1, h2⟩ := split_near hs hv
  refine ⟨a, b, h1, ?_, fun h => hv (by rw [h1]; simp [h]), fun h => hv (by rw [h1]; simp [h]), h2⟩
  refine List.Perm.eq_of_pairwise (le := (· ≤ ·)) (fun a b _ _ h1 h2 => Nat.le_antisymm h1 h2) (sortN_sorted _) (h2.imp Nat.le_of_lt) ?_
  refine (sortN_perm _).trans ?_
  rw [h1, List.append_assoc]
  exact (List.perm_append_comm (l₁ := b) (l₂ := [v])).append_left a
theorem or_gap (c i : Nat) : (c % 2 ^ i) ||| ((c - c % 2 ^ i) * 2) = c % 2 ^ i + (c - c % 2 ^ i) * 2 := by
  have h1 := Nat.div_add_mod c (2 ^ i)
  have h2 : (c - c % 2 ^ i) * 2 = 2 ^ i * (c / 2 ^ i * 2) := by
    have : c - c % 2 ^ i = 2 ^ i * (c / 2 ^ i) := by omega
    rw [this, Nat.mul_assoc]
  have := Nat.two_pow_add_eq_or_of_lt (Nat.mod_lt c (Nat.two_pow_pos i)) (c / 2 ^ i * 2)
  rw [h2, Nat.or_comm, ← this, Nat.add_comm]
/-- The choice 'c' of the neighbours, as one of theirs and of the vertex: without it, with it. -/
theorem out_eq {a b : List Nat} {v c : Nat} (ha : v ∉ a) (hb : v ∉ b) (hn : (a ++ b).Nodup) (hc : c < 2 ^ (a ++ b).length) : (c % 2 ^ a.length) ||| ((c - c % 2 ^ a.length) * 2) = encB (a ++ v :: b) (setB (decN (a ++ b) c) v false) := by
  have hv : decN (a ++ b) c v = false := dec_out (by simp [ha, hb])
  have h1 : setB (decN (a ++ b) c) v false = decN (a ++ b) c := by have := setB_self (decN (a ++ b) c) v; rwa [hv] at this
  rw [or_gap, h1, encB_gap a b v _ c (encB_dec hn hc).symm hv]
theorem in_eq {a b : List Nat} {v c : Nat} (ha : v ∉ a) (hb : v ∉ b) : encB (a ++ v :: b) (setB (decN (a ++ b) c) v false) ||| 2 ^ a.length = encB (a ++ v :: b) (setB (decN (a ++ b) c) v true) := by
  have hv : decN (a ++ b) c v = false := dec_out (by simp [ha, hb])
  have h1 : setB (decN (a ++ b) c) v false = decN (a ++ b) c := by have := setB_self (decN (a ++ b) c) v; rwa [hv] at this
  rw [h1]; exact encB_or a b v _ ha hb hv
noncomputable section
open Classical
def sB (x : St) (ts : List Tab) (c : Nat) (b : Bool) : Nat := sumT (mineT x.1 ts) (setB (decN x.2 c) x.1 b)
def alF (ad : Nat → Nat → Prop) (x : St) (c : Nat) : Bool := decide (∀ u ∈ x.2, decN x.2 c u = true → ¬ ad x.1 u)
def inF (ad : Nat → Nat → Prop) (x : St) (ts : List Tab) (c : Nat) : Bool := alF ad x c && decide (sB x ts c false < sB x ts c true + 1)
def beF (ad : Nat → Nat → Prop) (x : St) (ts : List Tab) (c : Nat) : Nat := if inF ad x ts c = true then sB x ts c true + 1 else sB x ts c false
end
/-- A list that is told up to 'c'. -/
def upT {α : Type} (f : Nat → α) (z : α) (M c : Nat) : List α := (List.range M).map fun i => if i < c then f i else z
theorem upT_length {α : Type} (f : Nat → α) (z : α) (M c : Nat) : (upT f z M c).length = M := by simp [upT]
theorem upT_zero {α : Type} (f : Nat → α) (z : α) (M : Nat) : upT f z M 0 = List.replicate M z := by
  apply List.ext_getElem?; intro i; simp only [upT, List.getElem?_map, List.getElem?_replicate]
  rcases Nat.lt_or_ge i M with h | h
  · simp [h]
  · simp [h, Nat.not_lt.2 h]
theorem upT_set {α : Type} (f : Nat → α) (z : α) {M c : Nat} (h : c < M) : (upT f z M c).set c (f c) = upT f z M (c + 1) := by
  apply List.ext_getElem?; intro i
  rw [List.getElem?_set]
  simp only [upT, List.length_map, List.length_range, List.getElem?_map]
  by_cases hc : c = i
  · subst hc; simp [h]
  · rw [if_neg hc]
    rcases Nat.lt_or_ge i M with h1 | h1
    · simp [h1]; congr 1; simp; omega
    · simp [Nat.not_lt.2 h1, h1]
theorem upT_keep {α : Type} (f : Nat → α) (z : α) {M c : Nat} (h : f c = z) : upT f z M c = upT f z M (c + 1) := by
  unfold upT
  apply List.map_congr_left
  intro i _
  by_cases hc : i = c
  · subst hc; simp [h]
  · by_cases h1 : i < c
    · simp [h1]; omega
    · simp [h1]; intro h2; omega
theorem upT_all {α : Type} (f : Nat → α) (z : α) (M : Nat) : upT f z M M = (List.range M).map f := by
  unfold upT
  apply List.map_congr_left
  intro i hi
  rw [List.mem_range] at hi; simp [hi]
theorem upT_get {α : Type} (f : Nat → α) (z : α) {M c i : Nat} (h : i < M) : (upT f z M c)[i]? = some (if i < c then f i else z) := by simp [upT, h]
theorem map_nats {f : Nat → Nat} {z M c : Nat} : nats (upT f z M c) = (List.range M).map fun i => Value.int .i64 (((if i < c then f i else z : Nat)) : Int) := by simp [nats, upT]
theorem Elim.of {ad : Nat → Nat → Prop} {x : St} {ts : List Tab} (hn : x.2.Nodup) (hx : x.1 ∉ x.2) (hm : ∀ t ∈ mineT x.1 ts, ∀ u ∈ t.1, u = x.1 ∨ u ∈ x.2) :
    Elim ad x ts (x.2, (List.range (2 ^ x.2.length)).map (beF ad x ts)) ((List.range (2 ^ x.2.length)).map (inF ad x ts)) := by
  have hs : ∀ (s : Nat → Bool) (b : Bool), sB x ts (encB x.2 s) b = sumT (mineT x.1 ts) (setB s x.1 b) := fun s b => sumT_congr fun t ht v hv => by
    unfold setB
    by_cases h : v = x.1
    · simp [h]
    · simp only [if_neg h]; exact dec_enc ((hm t ht v hv).resolve_left h)
  have ha : ∀ s : Nat → Bool, alF ad x (encB x.2 s) = true ↔ ∀ u ∈ x.2, s u = true → ¬ ad x.1 u := fun s => by
    simp only [alF, decide_eq_true_eq]
    exact ⟨fun h u hu hsu => h u hu (by rw [dec_enc hu]; exact hsu), fun h u hu hsu => h u hu (by rw [dec_enc hu] at hsu; exact hsu)⟩
  have hg : ∀ s : Nat → Bool, ((List.range (2 ^ x.2.length)).map (inF ad x ts)).getD (encB x.2 s) false = inF ad x ts (encB x.2 s) := fun s => by
    simp [List.getD_eq_getElem?_getD, encB_lt x.2 s]
  have hi : ∀ s : Nat → Bool, inF ad x ts (encB x.2 s) = true ↔ (∀ u ∈ x.2, s u = true → ¬ ad x.1 u) ∧ sumT (mineT x.1 ts) (setB s x.1 false) < sumT (mineT x.1 ts) (setB s x.1 true) + 1 := fun s => by
    unfold inF
    rw [Bool.and_eq_true, ha, decide_eq_true_eq, hs, hs]
  refine ⟨rfl, by simp, by simp, fun s => by rw [hg]; exact hi s, fun s => ?_⟩
  rw [hg]
  have h1 : tv (x.2, (List.range (2 ^ x.2.length)).map (beF ad x ts)) s = beF ad x ts (encB x.2 s) := by
    simp [tv, List.getD_eq_getElem?_getD, encB_lt x.2 s]
  rw [h1]
  unfold beF
  rw [hs, hs]
theorem Elim.bound {ad : Nat → Nat → Prop} {x : St} {ts : List Tab} {t : Tab} {inn : List Bool} (h : Elim ad x ts t inn) {B : Nat} (hb : ∀ s, sumT ts s ≤ B) (s : Nat → Bool) : sumT (restT x.1 ts ++ [t]) s ≤ B + 1 := by
  have h0 : sumT [t] s = tv t s := by simp [sumT]
  rw [sumT_append, h0, h.best]
  have hr : ∀ b, sumT (restT x.1 ts) (setB s x.1 b) = sumT (restT x.1 ts) s := fun b => sumT_congr fun t ht v hv => by
    simp [restT] at ht
    unfold setB; rw [if_neg (by rintro rfl; exact ht.2 hv)]
  split
  · have h1 := hb (setB s x.1 true); rw [sumT_split x.1, hr] at h1; omega
  · have h1 := hb (setB s x.1 false); rw [sumT_split x.1, hr] at h1; omega
theorem mineT_le (v : Nat) (ts : List Tab) (s : Nat → Bool) : sumT (mineT v ts) s ≤ sumT ts s := by have := sumT_split v ts s; omega
theorem mineT_succ (v : Nat) (ts : List Tab) {k : Nat} (h : k < ts.length) : mineT v (ts.take (k + 1)) = mineT v (ts.take k) ++ (if v ∈ ts[k].1 then [ts[k]] else []) := by
  rw [List.take_succ_eq_append_getElem h, mineT, List.filter_append]
  congr 1
  by_cases hv : v ∈ ts[k].1 <;> simp [hv]
theorem restT_succ (v : Nat) (ts : List Tab) {k : Nat} (h : k < ts.length) : restT v (ts.take (k + 1)) = restT v (ts.take k) ++ (if v ∈ ts[k].1 then [] else [ts[k]]) := by
  rw [List.take_succ_eq_append_getElem h, restT, List.filter_append]
  congr 1
  by_cases hv : v ∈ ts[k].1 <;> simp [hv]
end Go.Proofs.YtdmodppoellbkaaGreat
namespace Go.Proofs.YtdmodppoellbkaaGreat
open Go Go.RowKit
variable (U : Cx)
/-- What a vertex decides, as a function. -/
def clo (ib : Nat) : Value := .func (.func 99) #[] #[.pointer (some ⟨ib, 0, none⟩)]
theorem hset_id {H : Hp} {b : Nat} {o : Blk} (h : H b = some o) : hset H b o = H := by funext c; unfold hset; split; rename_i hc; rw [hc, h]; rfl
theorem TbV.push {F : Hp} {us : List (Value × Value)} {ts : List Tab} {u : Value × Value} {t : Tab} (h : TbV U F us ts) (h1 : RdS U F u.1 1 (nats t.1)) (h2 : RdS U F u.2 1 (nats t.2)) : TbV U F (us ++ [u]) (ts ++ [t]) := by
  refine ⟨by simp [h.1], fun i v y hv hy => ?_⟩
  rcases Nat.lt_or_ge i us.length with hi | hi
  · rw [List.getElem?_append_left hi] at hv
    rw [List.getElem?_append_left (by rw [← h.1]; exact hi)] at hy
    exact h.2 i v y hv hy
  · rw [List.getElem?_append_right hi] at hv
    rw [List.getElem?_append_right (by rw [← h.1]; exact hi)] at hy
    have h0 : i - us.length = 0 := by
      rcases Nat.eq_zero_or_pos (i - us.length) with h' | h'
      · exact h'
      · rw [List.getElem?_eq_none (by simp; omega)] at hv; cases hv
    rw [h0] at hv
    rw [← h.1, h0] at hy
    simp at hv hy; subst hv; subst hy; exact ⟨h1, h2⟩
theorem nats_set2 (l : List Nat) (c a b : Nat) : (nats (l.set c a)).set (0 + c - 0) (.int .i64 ((b : Nat) : Int)) = nats (l.set c b) := by rw [nats_set, List.set_set]
theorem wh_own {n : Nat} {T : Tm} {R H : Hp} {N : Nat} {Q : Post} {ops : Array Oper} {fuel : Nat} {listed : Array Bool} (h : U.B ≤ N → (∀ b o, H b = some o → U.B ≤ b ∧ b < N) → WH U n ops R fuel listed T H N Q) : WH U n ops R fuel listed T H N Q :=
  fun a w hs => h hs.own.hBN (fun b o e => ⟨(hs.own.blk b o e).1, hs.own.lt b o e⟩) a w hs
/-- Two lists of tables that grow beside one another. -/
structure Two (H1 H : Hp) (M : Nat) (mv rv : Value) (um ur : List (Value × Value)) : Prop where
  ms : IsSl H mv 139 2 (ttc um)
  rs : IsSl H rv 139 2 (ttc ur)
  ml : ∀ c, blkOf mv = some c → M ≤ c
  rl : ∀ c, blkOf rv = some c → M ≤ c
  ne : ∀ c, blkOf mv = some c → blkOf rv ≠ some c
  sub : Sub H1 H
theorem Two.swap {H1 H : Hp} {M : Nat} {mv rv : Value} {um ur : List (Value × Value)} (h : Two H1 H M mv rv um ur) : Two H1 H M rv mv ur um := ⟨h.rs, h.ms, h.rl, h.ml, fun c h1 h2 => h.ne c h2 h1, h.sub⟩
theorem Two.grow {H1 H H' : Hp} {M : Nat} {mv rv : Value} {um ur : List (Value × Value)} (h : Two H1 H M mv rv um ur) (hs : Sub H H') : Two H1 H' M mv rv um ur := ⟨h.ms.sub hs, h.rs.sub hs, h.ml, h.rl, h.ne, h.sub.trans hs⟩
theorem Two.push {H1 H H' : Hp} {M N cA : Nat} {mv rv mv' : Value} {um ur : List (Value × Value)} {u : Value × Value} (h : Two H1 H M mv rv um ur) (hl : ∀ b o, H b = some o → U.B ≤ b ∧ b < N) (h1 : ∀ b o, H1 b = some o → U.B ≤ b ∧ b < M) (hMN : M ≤ N)
    (hk : ∀ c, c < N → blkOf mv ≠ some c → H' c = H c) (hs : IsSl H' mv' 139 2 (ttc um ++ [u.1, u.2])) (hv : blkOf mv' = some cA) (hc : blkOf mv = some cA ∨ N ≤ cA) : Two H1 H' M mv' rv (um ++ [u]) ur := by
  refine ⟨by rw [ttc_append]; exact hs, h.rs.at fun c hc => hk c (h.rs.lt hl hc).2 (fun hm => h.ne c hm hc), fun c hh => ?_, h.rl, fun c h2 h3 => ?_, h.sub.of fun c o hc => hk c (by have := (h1 c o hc).2; omega) (fun hm => by have := h.ml c hm; have := (h1 c o hc).2; omega)⟩
  · rw [hv] at hh; cases hh
    rcases hc with hc | hc
    · exact h.ml _ hc
    · omega
  · rw [hv] at h2; cases h2
    rcases hc with hc | hc
    · exact h.ne _ hc h3
    · have := (h.rs.lt hl h3).2; omega
theorem s99 (c ib : Nat) (iv : Value) (inn : List Bool) (hc : c < inn.length) (H : Hp) (N : Nat) (hb : H ib = some (.row 67 0 [iv] 1)) (hi : RdS U H iv 1 (bools inn)) : Spec U 99 #[(.int .i64 ((c : Nat) : Int)), (.pointer (some ⟨ib, 0, none⟩))] H N (fun v H' N' => v = .bool (inn.getD c false) ∧ H = H' ∧ N = N') := by
  obtain ⟨ip, icap, rfl, hic, hip⟩ := hi.cells1 U
  rw [bools_length] at hip hic
  obtain ⟨b, off, rfl⟩ := hip (by omega)
  refine spa U pf_99 (m := 8) rfl rfl (by simp) fun hBN hlt => ?_
  obtain ⟨J, hJ⟩ := Has.ex (T := argsT #[(.int .i64 ((c : Nat) : Int)), (.pointer (some ⟨ib, 0, none⟩))]) (l := [(0, (.int .i64 ((c : Nat) : Int))), (1, (.pointer (some ⟨ib, 0, none⟩)))]) ⟨rfl, rfl, trivial⟩
  rw [hJ]; clear hJ
  have hbB := (hlt _ _ hb).1
  have hbl := bools_length inn
  have hg := List.getElem?_eq_getElem hc
  repeat (first|refine nt ?_|refine nq ?_|refine wq U ?_)
  refine wg U ?_
  refine wr U ((ra U).to (v' := (.bool false)) rfl) rfl rfl ?_
  refine wz U ?_
  repeat (first|refine nt ?_|refine nq ?_|refine wq U ?_)
  refine wg U ?_
  refine wr U (rl1 U el_67 rfl (v := (.slice (some ⟨b, off, none⟩) ((bools inn).length) icap)) (by rw [rrw U (by omega) hb]; rfl)) rfl rfl ?_
  refine wr U ((rm U).to (v' := (.int .i64 ((c : Nat) : Int))) rfl) rfl rfl ?_
  refine wr U (rd_idx1 U (j := c) sl_67 rfl rfl (by omega)) rfl rfl ?_
  refine wr U (rl1 U el_4 rfl (v := (.bool (inn[c]))) (hi.get U (bools_get hg))) rfl rfl ?_
  refine wr U ((ra U).to (v' := (.bool (inn[c]))) rfl) rfl rfl ?_
  refine wz U ?_
  refine wc_ret U ?_
  repeat (first|refine ret1 ?_|refine ret2 ?_)
  exact end1 U (.inl rfl) rfl (v := (.bool (inn[c]))) rfl ⟨by rw [List.getD_eq_getElem?_getD, hg]; rfl, rfl, rfl⟩
theorem s63 (n : Nat) (E : List NE) (hg : GOk n E) (sb : Nat) (nv tv0 dv : Value) (x : St) (us : List (Value × Value)) (ts : List Tab) (post : List St) (dc : List Value) (xv : Value) (R : Hp) (H : Hp) (N : Nat)
    (hxn : x.1 < n) (hxs : x.2.Pairwise (· < ·)) (hxl : x.2.length ≤ 40) (hxb : ∀ y ∈ x.2, y < n) (hx1 : x.1 ∉ x.2) (hok : TOk ts (x :: post)) (hbd : ∀ s, sumT ts s ≤ 900) (htn : ts.length ≤ 900) (htl : ∀ t ∈ ts, t.1.length ≤ 60)
    (hsb : H sb = some (.row 101 0 [nv, tv0, dv] 3)) (hR : Sub R H) (hRs : R sb = none) (hRd : ∀ c, blkOf dv = some c → R c = none) (hds : blkOf dv ≠ some sb) (hnr : Rd2 U R nv (nearL n E)) (hxr : RdS U R xv 1 (nats x.2))
    (htv : RdS U R tv0 2 (ttc us)) (hts : TbV U R us ts) (hdc : IsSl H dv 63 1 dc) (hdl : dc.length ≤ 900) : Spec U 63 #[(.pointer (some ⟨sb, 0, none⟩)), (.agg #[(.int .i64 ((x.1 : Nat) : Int)), xv])] H N (fun v H' N' => ∃ (R' : Hp) (tv' dv' : Value) (us' : List (Value × Value)) (t : Tab) (inn : List Bool) (ib : Nat) (iv : Value), Elim (adj E) x ts t inn ∧ Sub R R' ∧ Sub R' H' ∧ (∀ c, c < N → R' c = R c) ∧ (∀ c o, H c = some o → c ≠ sb → blkOf dv ≠ some c → H' c = some o) ∧ R' sb = none ∧ (∀ c, blkOf dv' = some c → R' c = none) ∧ (∀ c, blkOf dv' = some c → blkOf dv = some c ∨ N ≤ c) ∧ blkOf dv' ≠ some sb ∧ H' sb = some (.row 101 0 [nv, tv', dv'] 3) ∧ RdS U R' tv' 2 (ttc us') ∧ TbV U R' us' (restT x.1 ts ++ [t]) ∧ IsSl H' dv' 63 1 (dc ++ [clo ib]) ∧ N ≤ ib ∧ R' ib = some (.row 67 0 [iv] 1) ∧ RdS U (hiH N R') iv 1 (bools inn) ∧ N ≤ N') := by
  obtain ⟨xp, xcap, rfl, hxc, hxp⟩ := hxr.nums U
  obtain ⟨tp, tk, tcap, rfl, htc, htk, htp⟩ := htv.out U
  obtain rfl : tk = us.length := by rw [ttc_length] at htk; omega
  refine spa U pf_63 (m := 150) rfl rfl (by simp) fun hBN hlt => ?_
  obtain ⟨J, hJ⟩ := Has.ex (T := argsT #[(.pointer (some ⟨sb, 0, none⟩)), (.agg #[(.int .i64 ((x.1 : Nat) : Int)), (.slice xp x.2.length xcap)])]) (l := [(0, (.pointer (some ⟨sb, 0, none⟩))), (1, (.agg #[(.int .i64 ((x.1 : Nat) : Int)), (.slice xp x.2.length xcap)]))]) ⟨rfl, rfl, trivial⟩
  rw [hJ]; clear hJ
  have hn := hg.hn
  have hul := hts.1
  have hsbB := hlt _ _ hsb
  repeat (first|refine nt ?_|refine nq ?_|refine wq U ?_)
  refine wg U ?_
  refine wl_op U rfl rfl (op_box U rfl rfl ?_)
  refine wz U ?_
  repeat (first|refine nt ?_|refine nq ?_|refine wq U ?_)
  refine wg U ?_
  refine wr U ((ra U).to (v' := (.slice none 0 0)) rfl) rfl rfl ?_
  refine wr U ((ra U).to (v' := (.slice none 0 0)) rfl) rfl rfl ?_
  refine wz U ?_
  repeat (first|refine nt ?_|refine nq ?_)
  refine wc_gen U (fun R => R sb = some (.row 101 0 [nv, (.slice tp us.length tcap), dv] 3) ∧ R N = some (.row 106 0 [(.int .i64 ((x.1 : Nat) : Int)), (.slice xp x.2.length xcap)] 2) ∧ Sub _ R) ⟨(by rw [hsn (b := sb) (c := N) (by omega)]; exact hsb), (by first|(rw [hsy]; done) | (rw [hsy]; rfl)), ((Sub.refl _).hset (fresh hlt (by omega)))⟩ ?_
  rintro H1 ⟨hx_1, hx_2, hs1⟩ hBNH1 hltH1
  repeat (first|refine nt ?_|refine nq ?_|refine wq U ?_)
  refine wg U ?_
  refine wr U ((rm U).to (v' := (.pointer (some ⟨sb, 0, none⟩))) rfl) rfl rfl ?_
  refine wr U (rd_nilCheck U rfl) rfl rfl ?_
  refine wr U ((rfa U fb_101_1 rfl).to (v' := (.pointer (some ⟨sb, 1, none⟩))) rfl) rfl rfl ?_
  refine wr U (rl1 U el_98 rfl (v := (.slice tp us.length tcap)) (by rw [rrw U (by omega) hx_1]; rfl)) rfl rfl ?_
  refine wr U ((rd_len' U sl_98 rfl).to (v' := (.int .i64 ((us.length : Nat) : Int))) rfl) rfl rfl ?_
  refine wr U ((rm U).to (v' := (.int .i64 0)) rfl) rfl rfl ?_
  refine wz U ?_
  repeat (first|refine nt ?_|refine nq ?_|refine wq U ?_)
  refine wc_block U ?_
  refine wc_loop U (fun m T H' N' => ∃ (k : Nat) (mv rv : Value) (um ur : List (Value × Value)), k ≤ us.length ∧ m = us.length - k ∧ Has T [(0, (.pointer (some ⟨sb, 0, none⟩))), (3, (.pointer (some ⟨N, 0, none⟩))), (4, mv), (5, rv), (20, (.slice tp us.length tcap)), (21, (.int .i64 ((us.length : Nat) : Int))), (22, (.int .i64 ((k : Nat) : Int)))] ∧ Two H1 H' (N + 1) mv rv um ur ∧ TbV U R um (mineT x.1 (ts.take k)) ∧ TbV U R ur (restT x.1 (ts.take k)) ∧ N + 1 ≤ N') us.length ⟨0, .slice none 0 0, .slice none 0 0, [], [], Nat.zero_le _, rfl, ⟨rfl, rfl, rfl, rfl, rfl, rfl, rfl, trivial⟩, ⟨.inl ⟨rfl, rfl⟩, .inl ⟨rfl, rfl⟩, (fun c hc => by cases hc), (fun c hc => by cases hc), (fun c hc => by cases hc), Sub.refl _⟩, ⟨rfl, fun i u t hu => by cases hu⟩, ⟨rfl, fun i u t hu => by cases hu⟩, Nat.le_refl _⟩ ?_
  rintro m T H2 N2 ⟨k, mv, rv, um, ur, hk, rfl, hT, hTw, hum, hur, hN2⟩
  obtain ⟨J, rfl⟩ := hT.ex
  refine wc_own U fun hBN2 hlt2 => ?_
  have hRH1 : Sub R H1 := hR.trans hs1
  have hs2 := hTw.sub
  repeat (first|refine nt ?_|refine nq ?_|refine wq U ?_)
  refine wg U ?_
  refine wr U (rd_lss U rfl rfl) rfl rfl ?_
  refine wz U ?_
  repeat (first|refine nt ?_|refine nq ?_|refine wq U ?_)
  refine wcd U (t := (decide (((k : Nat) : Int) < ((us.length : Nat) : Int)))) rfl (fun hck => ?_) fun hck => ?_
  · replace hck := of_decide_eq_true hck
    refine wsk U ?_
    repeat (first|refine nt ?_|refine nq ?_)
    have hk1 : k < us.length := by omega
    obtain ⟨tb0, toff, rfl⟩ := htp (by omega)
    have hk2 : k < ts.length := by omega
    obtain ⟨u, hu⟩ := get_ex hk1
    have htk2 := List.getElem?_eq_getElem hk2
    obtain ⟨hr1, hr2⟩ := hts.2 k u _ hu htk2
    obtain ⟨u1, u2⟩ := u
    obtain ⟨p1, c1, rfl, hc1, hp1⟩ := hr1.nums U
    obtain ⟨p2, c2, rfl, hc2, hp2⟩ := hr2.nums U
    obtain ⟨hg1, hg2⟩ := ttc_get hu
    have htm : ts[k] ∈ ts := List.getElem_mem hk2
    have htl1 := htl _ htm
    have hR2 : Sub R H2 := hRH1.trans hs2
    have ht2 := htv.sub U hR2
    repeat (first|refine nt ?_|refine nq ?_|refine wq U ?_)
    refine wc_block U ?_
    repeat (first|refine nt ?_|refine nq ?_|refine wq U ?_)
    refine wg U ?_
    refine wr U (rd_idxN U (j := k) sl_98 rfl rfl (by omega)) rfl rfl ?_
    refine wr U (rd_load2 U el_139 rfl (v0 := (.slice p1 (ts[k].1.length) c1)) (v1 := (.slice p2 (ts[k].2.length) c2))  (ht2.get U hg1) (ht2.get U hg2)) rfl rfl ?_
    refine wl_op U rfl rfl (op_alloc U z_139 rfl ?_)
    refine wl_op0 U rfl (op_store U (vs := [(.slice p1 (ts[k].1.length) c1), (.slice p2 (ts[k].2.length) c2)]) (cs := [(.slice none 0 0), (.slice none 0 0)]) el_139 rfl rfl rfl rfl (one2 rfl rfl) (by first|(rw [hsy]; done) | (rw [hsy]; rfl)) (by omega) (by simp) ?_)
    refine wz U ?_
    repeat (first|refine nt ?_|refine nq ?_)
    refine wc_gen U (fun R => R N = some (.row 106 0 [(.int .i64 ((x.1 : Nat) : Int)), (.slice xp x.2.length xcap)] 2) ∧ R N2 = some (.row 139 0 [(.slice p1 (ts[k].1.length) c1), (.slice p2 (ts[k].2.length) c2)] 2) ∧ Sub _ R) ⟨(by rw [hsn (b := N) (c := N2) (by omega), hsn (b := N) (c := N2) (by omega)]; exact (hs2 _ _ hx_2)), (by first|(rw [hsy]; done) | (rw [hsy]; rfl)), (((Sub.refl _).hset (fresh hlt2 (by omega))).hset (fresh hlt2 (by omega)))⟩ ?_
    rintro H3 ⟨hx_3, hx_4, hs3⟩ hBNH3 hltH3
    repeat (first|refine nt ?_|refine nq ?_|refine wq U ?_)
    refine wg U ?_
    refine wr U ((rfa U fb_139_0 rfl).to (v' := (.pointer (some ⟨N2, 0, none⟩))) rfl) rfl rfl ?_
    refine wr U (rl1 U el_26 rfl (v := (.slice p1 (ts[k].1.length) c1)) (by rw [rrw U (by omega) hx_4]; rfl)) rfl rfl ?_
    refine wr U ((rfa U fb_106_0 rfl).to (v' := (.pointer (some ⟨N, 0, none⟩))) rfl) rfl rfl ?_
    refine wr U (rl1 U el_3 rfl (v := (.int .i64 ((x.1 : Nat) : Int))) (by rw [rrw U (by omega) hx_3]; rfl)) rfl rfl ?_
    refine wl_op U rfl rfl (op_call U Tryz.f92 rfl rfl pf_92 (by kernel_rfl) (by kernel_rfl) ((s92 U ts[k].1 _ x.1 (by omega) H3 (N2 + 1) (hr1.sub U (hR2.trans hs3))).mono U ?_))
    rintro _ _ _ ⟨rfl, rfl, rfl⟩
    refine wz U ?_
    repeat (first|refine nt ?_|refine nq ?_|refine wq U ?_)
    refine wcd U (t := (decide (x.1 ∈ ts[k].1))) rfl (fun hin => ?_) fun hin => ?_
    · replace hin := of_decide_eq_true hin
      have hnum : um.length ≤ ts.length := by rw [hum.1]; exact Nat.le_trans (List.length_filter_le _ _) (by rw [List.length_take]; omega)
      have hTw3 := hTw.grow hs3
      repeat (first|refine nt ?_|refine nq ?_|refine wq U ?_)
      refine wg U ?_
      refine wr U ((rm U).to (v' := mv) rfl) rfl rfl ?_
      refine wr U (rd_load2 U el_139 rfl (v0 := (.slice p1 (ts[k].1.length) c1)) (v1 := (.slice p2 (ts[k].2.length) c2))  (by rw [rrw U (by omega) hx_4]; rfl) (by rw [rrw U (by omega) hx_4]; rfl)) rfl rfl ?_
      refine wl_op U rfl rfl (op_bs U sl_98 rfl (by decide) (by decide) [(.agg #[(.slice p1 (ts[k].1.length) c1), (.slice p2 (ts[k].2.length) c2)])] rfl (by simp [Value.cells]) rfl (cs := [(.slice p1 (ts[k].1.length) c1), (.slice p2 (ts[k].2.length) c2)]) rfl ?_)
      refine wl_op U rfl rfl (op_append1 U (H0 := _) (cs := ttc um) (ys := [(.slice p1 (ts[k].1.length) c1), (.slice p2 (ts[k].2.length) c2)]) sl_98 rfl (by decide) rfl hTw3.ms (fun hc => by have := (hTw3.ms.lt hltH3 hc).2; omega) rfl rfl rfl (by omega) (one2 rfl rfl) (by rw [ttc_length]; omega) (by rw [ttc_length]; omega) ?_)
      intro wA HA NA hNA hslA hfrA hloA
      refine wr U ((ra U).to (v' := wA) rfl) rfl rfl ?_
      refine wz U ?_
      repeat (first|refine nt ?_|refine nq ?_)
      obtain ⟨cA, hcA1, hcA2, hcA3⟩ := hloA
      have hTwA := hTw3.push U (u := ((.slice p1 (ts[k].1.length) c1), (.slice p2 (ts[k].2.length) c2))) hltH3 hltH1 (by omega) (fun c hc hne => (hfrA c (by omega) hne).trans (hsn (by omega))) hslA hcA1 (hcA3.imp id (by omega))
      repeat (first|refine nt ?_|refine nq ?_|refine wq U ?_)
      refine wg U ?_
      refine wr U (rd_add U rfl rfl (by omega) (by omega)) rfl rfl ?_
      refine wr U ((rm U).to (v' := (.int .i64 (((k : Nat) : Int) + 1))) rfl) rfl rfl ?_
      refine wz U ?_
      repeat (first|refine nt ?_|refine nq ?_)
      refine ⟨us.length - (k + 1), by omega, k + 1, wA, rv, _, _, by omega, rfl, ⟨rfl, rfl, rfl, rfl, rfl, rfl, rfl, trivial⟩, hTwA, ?_, ?_, by omega⟩
      · rw [mineT_succ x.1 ts hk2, if_pos hin]; exact hum.push U hr1 hr2
      · rw [restT_succ x.1 ts hk2, if_pos hin, List.append_nil]; exact hur
    · replace hin := of_decide_eq_false hin
      have hnur : ur.length ≤ ts.length := by rw [hur.1]; exact Nat.le_trans (List.length_filter_le _ _) (by rw [List.length_take]; omega)
      have hTw3 := hTw.grow hs3
      repeat (first|refine nt ?_|refine nq ?_|refine wq U ?_)
      refine wg U ?_
      refine wr U ((rm U).to (v' := rv) rfl) rfl rfl ?_
      refine wr U (rd_load2 U el_139 rfl (v0 := (.slice p1 (ts[k].1.length) c1)) (v1 := (.slice p2 (ts[k].2.length) c2))  (by rw [rrw U (by omega) hx_4]; rfl) (by rw [rrw U (by omega) hx_4]; rfl)) rfl rfl ?_
      refine wl_op U rfl rfl (op_bs U sl_98 rfl (by decide) (by decide) [(.agg #[(.slice p1 (ts[k].1.length) c1), (.slice p2 (ts[k].2.length) c2)])] rfl (by simp [Value.cells]) rfl (cs := [(.slice p1 (ts[k].1.length) c1), (.slice p2 (ts[k].2.length) c2)]) rfl ?_)
      refine wl_op U rfl rfl (op_append1 U (H0 := _) (cs := ttc ur) (ys := [(.slice p1 (ts[k].1.length) c1), (.slice p2 (ts[k].2.length) c2)]) sl_98 rfl (by decide) rfl hTw3.swap.ms (fun hc => by have := (hTw3.swap.ms.lt hltH3 hc).2; omega) rfl rfl rfl (by omega) (one2 rfl rfl) (by rw [ttc_length]; omega) (by rw [ttc_length]; omega) ?_)
      intro wA HA NA hNA hslA hfrA hloA
      refine wr U ((ra U).to (v' := wA) rfl) rfl rfl ?_
      refine wz U ?_
      repeat (first|refine nt ?_|refine nq ?_)
      obtain ⟨cA, hcA1, hcA2, hcA3⟩ := hloA
      have hTwA := hTw3.swap.push U (u := ((.slice p1 (ts[k].1.length) c1), (.slice p2 (ts[k].2.length) c2))) hltH3 hltH1 (by omega) (fun c hc hne => (hfrA c (by omega) hne).trans (hsn (by omega))) hslA hcA1 (hcA3.imp id (by omega))
      repeat (first|refine nt ?_|refine nq ?_|refine wq U ?_)
      refine wg U ?_
      refine wr U (rd_add U rfl rfl (by omega) (by omega)) rfl rfl ?_
      refine wr U ((rm U).to (v' := (.int .i64 (((k : Nat) : Int) + 1))) rfl) rfl rfl ?_
      refine wz U ?_
      repeat (first|refine nt ?_|refine nq ?_)
      refine ⟨us.length - (k + 1), by omega, k + 1, mv, wA, _, _, by omega, rfl, ⟨rfl, rfl, rfl, rfl, rfl, rfl, rfl, trivial⟩, hTwA.swap, ?_, ?_, by omega⟩
      · rw [mineT_succ x.1 ts hk2, if_neg hin, List.append_nil]; exact hum
      · rw [restT_succ x.1 ts hk2, if_neg hin]; exact hur.push U hr1 hr2
  · replace hck := of_decide_eq_false hck
    refine wc_exit U ?_
    repeat (first|refine xt ?_|refine xps (by decide) ?_)
    refine xbl ?_
    repeat (first|refine nt ?_|refine nq ?_)
    have hkl : k = ts.length := by omega
    rw [hkl, List.take_length] at hum hur
    have hnum : um.length ≤ ts.length := by rw [hum.1]; exact List.length_filter_le _ _
    have hnur : ur.length ≤ ts.length := by rw [hur.1]; exact List.length_filter_le _ _
    have hR2 : Sub R H2 := hRH1.trans hs2
    have hx2 := hs2 _ _ hx_2
    obtain ⟨la, lb, hnear, hall, hva, hvb, hals⟩ := split_sort hxs hx1
    obtain ⟨all, hall0⟩ : ∃ l, la ++ x.1 :: lb = l := ⟨_, rfl⟩
    rw [hall0] at hall hals
    have hallm : ∀ y ∈ all, y = x.1 ∨ y ∈ x.2 := fun y hy => by rw [← hall, mem_sortN] at hy; rcases List.mem_append.1 hy with h | h; exact .inr h; simp at h; exact .inl h
    have halll : all.length = x.2.length + 1 := by rw [← hall, sortN_length]; simp
    repeat (first|refine nt ?_|refine nq ?_)
    repeat (first|refine nt ?_|refine nq ?_|refine wq U ?_)
    refine wc_mid U (fun T' H' N' => ∃ av, Has T' [(0, (.pointer (some ⟨sb, 0, none⟩))), (3, (.pointer (some ⟨N, 0, none⟩))), (4, mv), (5, rv), (8, av)] ∧ Sub H2 H' ∧ N2 ≤ N' ∧ RdS U H' av 1 (nats all)) ?_ ?_
    · skip
      refine wc_draw U H2 mixed ?_
      refine wh_rd U 0 rfl ((rfa U fb_106_1 rfl).to (v' := (.pointer (some ⟨N, 1, none⟩))) rfl) (by kernel_rfl) (by kernel_rfl) (by kernel_rfl) rfl rfl (Sub.refl _) ?_
      refine wh_rd U 1 rfl (rl1 U el_26 rfl (v := (.slice xp x.2.length xcap)) (by rw [rrw U (by omega) hx2]; rfl)) (by kernel_rfl) (by kernel_rfl) (by kernel_rfl) rfl rfl (Sub.refl _) ?_
      refine wh_rd U 3 rfl ((rfa U fb_106_0 rfl).to (v' := (.pointer (some ⟨N, 0, none⟩))) rfl) (by kernel_rfl) (by kernel_rfl) (by kernel_rfl) rfl rfl (Sub.refl _) ?_
      refine wh_rd U 4 rfl (rl1 U el_3 rfl (v := (.int .i64 ((x.1 : Nat) : Int))) (by rw [rrw U (by omega) hx2]; rfl)) (by kernel_rfl) (by kernel_rfl) (by kernel_rfl) rfl rfl (Sub.refl _) ?_
      refine wh_two U 2 5 (by kernel_rfl) rfl rfl rfl rfl rfl rfl (op_call U Tryz.f95 rfl rfl pf_95 (by kernel_rfl) (by kernel_rfl) ((s95 U _ (nats x.2) (nats_one _) (by rw [nats_length]; omega) _ _ (hxr.sub U (hR2.trans (Sub.refl _)))).mono U ?_)) (op_bs U sl_26 rfl (by decide) (by decide) [(.int .i64 ((x.1 : Nat) : Int))] rfl (by simp [Value.cells]) rfl (cs := [(.int .i64 ((x.1 : Nat) : Int))]) rfl ⟨((Sub.refl H2).hset (fresh hlt2 (by omega))), ?_⟩)
      · skip
        rintro cv H3 N3 ⟨hcs, hcb, hs3, hN3⟩
        refine ⟨hs3, ?_⟩
        refine wh_own U fun hBN3 hlt3 => ?_
        have hsL : Sub H2 (hset H3 N3 (.row 3 0 [(.int .i64 ((x.1 : Nat) : Int))] 1)) := hs3.hset (fresh hlt2 (by omega))
        have hcl : blkOf cv ≠ some N3 := fun h => by have := (hcs.lt hlt3 h).2; omega
        refine wh_op U 5 (by kernel_rfl) rfl rfl rfl (op_bs U sl_26 rfl (by decide) (by decide) [(.int .i64 ((x.1 : Nat) : Int))] rfl (by simp [Value.cells]) rfl (cs := [(.int .i64 ((x.1 : Nat) : Int))]) rfl ⟨hsL, ?_⟩)
        refine wh_op U 6 (by kernel_rfl) rfl rfl rfl (op_append1 U (H0 := H3) (cs := nats x.2) (ys := [(.int .i64 ((x.1 : Nat) : Int))]) sl_26 rfl (by decide) rfl hcs hcl rfl rfl rfl (by omega) (one1 rfl) (by rw [nats_length]; omega) (by rw [nats_length]; omega) ?_)
        intro wA HA NA hNA hslA hfrA hloA
        have hsA : Sub H2 HA := hsL.of fun c o hc => hfrA c (by have := (hlt2 c o hc).2; omega) (fun h => by have := hcb c h; have := (hlt2 c o hc).2; omega)
        refine ⟨hsA, ?_⟩
        refine wh_own U fun hBNA hltA => ?_
        refine wh_op U 7 (by kernel_rfl) rfl rfl rfl (op_call U Tryz.f94 rfl rfl pf_94 (by kernel_rfl) (by kernel_rfl) ((s94 U wA (oneS hslA).1 HA NA).mono U ?_))
        rintro _ _ _ ⟨rfl, rfl, rfl⟩
        have hsB := hsA.hset (c := NA) (o := .row 26 0 [wA] 1) (fresh hlt2 (by omega))
        refine ⟨hsB, ?_⟩
        have hrA := ((hslA.at (H' := hset HA NA (.row 26 0 [wA] 1)) fun c hc => hsn (by have := (hslA.lt hltA hc).2; omega))).rds U (fun b o h => by unfold hset at h; split at h; omega; exact (hltA b o h).1)
        refine wh_op U 8 (by kernel_rfl) rfl rfl rfl (op_call U Tryz.f93 rfl rfl pf_93 (by kernel_rfl) (by kernel_rfl) ((s93 U NA wA (x.2 ++ [x.1]) (by simp; omega) _ _ hsy (by rw [nats_append]; exact hrA)).mono U ?_))
        rintro av H5 N5 ⟨hav, hab, hs5, hN5⟩
        refine ⟨hsB.trans hs5, ?_⟩
        refine wh_own U fun hBN5 hlt5 => ?_
        refine wh_rd U 9 rfl ((ra U).to (v' := av) rfl) (by kernel_rfl) (by kernel_rfl) (by kernel_rfl) rfl rfl (hsB.trans hs5) ?_
        refine wh_done U (by kernel_rfl) ?_
        exact ⟨rfl, av, ⟨rfl, rfl, rfl, rfl, rfl, trivial⟩, hsB.trans hs5, by omega, by rw [← hall]; exact hav.rds U (fun b o h => (hlt5 b o h).1)⟩
      · skip
        refine wh_op U 2 (by kernel_rfl) rfl rfl rfl (op_call U Tryz.f95 rfl rfl pf_95 (by kernel_rfl) (by kernel_rfl) ((s95 U _ (nats x.2) (nats_one _) (by rw [nats_length]; omega) _ _ (hxr.sub U (hR2.trans ((Sub.refl H2).hset (fresh hlt2 (by omega)))))).mono U ?_))
        rintro cv H3 N3 ⟨hcs, hcb, hs3, hN3⟩
        have hsL0 : Sub H2 H3 := ((Sub.refl H2).hset (fresh hlt2 (by omega))).trans hs3
        refine ⟨hsL0, ?_⟩
        refine wh_own U fun hBN3 hlt3 => ?_
        have hlit : H3 N2 = some (.row 3 0 [(.int .i64 ((x.1 : Nat) : Int))] 1) := hs3 _ _ hsy
        have hcl : blkOf cv ≠ some N2 := fun h => by have := hcb _ h; omega
        refine wh_op U 6 (by kernel_rfl) rfl rfl rfl (op_append1 U (H0 := H3) (cs := nats x.2) (ys := [(.int .i64 ((x.1 : Nat) : Int))]) sl_26 rfl (by decide) rfl hcs hcl rfl (hset_id hlit).symm rfl (by omega) (one1 rfl) (by rw [nats_length]; omega) (by rw [nats_length]; omega) ?_)
        intro wA HA NA hNA hslA hfrA hloA
        have hsA : Sub H2 HA := hsL0.of fun c o hc => hfrA c (by have := (hlt2 c o hc).2; omega) (fun h => by have := hcb c h; have := (hlt2 c o hc).2; omega)
        refine ⟨hsA, ?_⟩
        refine wh_own U fun hBNA hltA => ?_
        refine wh_op U 7 (by kernel_rfl) rfl rfl rfl (op_call U Tryz.f94 rfl rfl pf_94 (by kernel_rfl) (by kernel_rfl) ((s94 U wA (oneS hslA).1 HA NA).mono U ?_))
        rintro _ _ _ ⟨rfl, rfl, rfl⟩
        have hsB := hsA.hset (c := NA) (o := .row 26 0 [wA] 1) (fresh hlt2 (by omega))
        refine ⟨hsB, ?_⟩
        have hrA := ((hslA.at (H' := hset HA NA (.row 26 0 [wA] 1)) fun c hc => hsn (by have := (hslA.lt hltA hc).2; omega))).rds U (fun b o h => by unfold hset at h; split at h; omega; exact (hltA b o h).1)
        refine wh_op U 8 (by kernel_rfl) rfl rfl rfl (op_call U Tryz.f93 rfl rfl pf_93 (by kernel_rfl) (by kernel_rfl) ((s93 U NA wA (x.2 ++ [x.1]) (by simp; omega) _ _ hsy (by rw [nats_append]; exact hrA)).mono U ?_))
        rintro av H5 N5 ⟨hav, hab, hs5, hN5⟩
        refine ⟨hsB.trans hs5, ?_⟩
        refine wh_own U fun hBN5 hlt5 => ?_
        refine wh_rd U 9 rfl ((ra U).to (v' := av) rfl) (by kernel_rfl) (by kernel_rfl) (by kernel_rfl) rfl rfl (hsB.trans hs5) ?_
        refine wh_done U (by kernel_rfl) ?_
        exact ⟨rfl, av, ⟨rfl, rfl, rfl, rfl, rfl, trivial⟩, hsB.trans hs5, by omega, by rw [← hall]; exact hav.rds U (fun b o h => (hlt5 b o h).1)⟩
    rintro T3 H3 N3 ⟨av, hT3, hs3, hN3, hav⟩
    obtain ⟨J3, rfl⟩ := hT3.ex
    repeat (first|refine nt ?_|refine nq ?_)
    have hxT := hs3 _ _ hx2
    have hlt_bit : la.length < all.length := by rw [← hall0]; simp
    have hall_get : all[la.length] = x.1 := by simp [← hall0]
    have hs96 := s96 U all av la.length hlt_bit hals (by omega) (fun y hy => by rcases hallm y hy with rfl | h; omega; have := hxb y h; omega) H3 N3 hav
    rw [hall_get] at hs96
    have hNB : U.B ≤ N := hBN
    repeat (first|refine nt ?_|refine nq ?_|refine wq U ?_)
    refine wg U ?_
    refine wr U ((rm U).to (v' := av) rfl) rfl rfl ?_
    refine wr U ((rfa U fb_106_0 rfl).to (v' := (.pointer (some ⟨N, 0, none⟩))) rfl) rfl rfl ?_
    refine wr U (rl1 U el_3 rfl (v := (.int .i64 ((x.1 : Nat) : Int))) (by rw [rrw U (by omega) hxT]; rfl)) rfl rfl ?_
    refine wl_op U rfl rfl (op_call U Tryz.f96 rfl rfl pf_96 (by kernel_rfl) (by kernel_rfl) ((hs96).mono U ?_))
    rintro _ _ _ ⟨rfl, rfl, rfl⟩
    refine wr U ((rm U).to (v' := (.tuple #[(.int .i64 ((la.length : Nat) : Int)), (.bool true)])) rfl) rfl rfl ?_
    refine wr U ((rd_extract U rfl rfl).to (v' := (.int .i64 ((la.length : Nat) : Int))) rfl) rfl rfl ?_
    refine wr U ((rd_extract U rfl rfl).to (v' := (.bool true)) rfl) rfl rfl ?_
    refine wr U ((ra U).to (v' := (.int .i64 ((la.length : Nat) : Int))) rfl) rfl rfl ?_
    refine wr U ((ra U).to (v' := (.bool true)) rfl) rfl rfl ?_
    refine wz U ?_
    repeat (first|refine nt ?_|refine nq ?_)
    refine wc_own U fun hBN3 hlt3 => ?_
    obtain ⟨M, hM⟩ : ∃ M, 2 ^ x.2.length = M := ⟨_, rfl⟩
    have hMs : M ≤ 1099511627776 := by rw [← hM]; exact Nat.le_trans (Nat.pow_le_pow_right (by omega) hxl) (by decide)
    have hM0 : 0 < M := by rw [← hM]; exact Nat.two_pow_pos _
    have hlal : la.length ≤ x.2.length := by rw [hnear]; simp
    repeat (first|refine nt ?_|refine nq ?_|refine wq U ?_)
    refine wc_mid U (fun T' H' N' => ∃ (tb bb : Nat), Has T' [(0, (.pointer (some ⟨sb, 0, none⟩))), (3, (.pointer (some ⟨N, 0, none⟩))), (4, mv), (5, rv), (8, av), (9, (.int .i64 ((la.length : Nat) : Int))), (11, (.pointer (some ⟨tb, 0, none⟩)))] ∧ H' tb = some (.row 139 0 [(.slice xp x.2.length xcap), (.slice (some ⟨bb, 0, none⟩) M M)] 2) ∧ H' bb = some (.row 3 0 (List.replicate M (.int .i64 0)) M) ∧ tb ≠ bb ∧ N3 ≤ tb ∧ N3 ≤ bb ∧ Sub H3 H' ∧ N3 ≤ N') ?_ ?_
    · skip
      refine wc_draw U H3 mixed ?_
      refine wh_rd U 0 rfl ((rfa U fb_106_1 rfl).to (v' := (.pointer (some ⟨N, 1, none⟩))) rfl) (by kernel_rfl) (by kernel_rfl) (by kernel_rfl) rfl rfl (Sub.refl _) ?_
      refine wh_rd U 1 rfl (rl1 U el_26 rfl (v := (.slice xp x.2.length xcap)) (by rw [rrw U (by omega) hxT]; rfl)) (by kernel_rfl) (by kernel_rfl) (by kernel_rfl) rfl rfl (Sub.refl _) ?_
      refine wh_rd U 2 rfl ((rfa U fb_106_1 rfl).to (v' := (.pointer (some ⟨N, 1, none⟩))) rfl) (by kernel_rfl) (by kernel_rfl) (by kernel_rfl) rfl rfl (Sub.refl _) ?_
      refine wh_rd U 3 rfl (rl1 U el_26 rfl (v := (.slice xp x.2.length xcap)) (by rw [rrw U (by omega) hxT]; rfl)) (by kernel_rfl) (by kernel_rfl) (by kernel_rfl) rfl rfl (Sub.refl _) ?_
      refine wh_rd U 4 rfl ((rd_len' U sl_26 rfl).to (v' := (.int .i64 ((x.2.length : Nat) : Int))) rfl) (by kernel_rfl) (by kernel_rfl) (by kernel_rfl) rfl rfl (Sub.refl _) ?_
      refine wh_rd U 5 rfl ((rd_conv U u_3 u_77 rfl).to (v' := (.int .u64 ((x.2.length : Nat) : Int))) (congrArg _ (u64_nat (by omega)))) (by kernel_rfl) (by kernel_rfl) (by kernel_rfl) rfl rfl (Sub.refl _) ?_
      refine wh_rd U 6 rfl ((rd_shl U rfl rfl (by omega) (by omega) (shl_lo _) (shl_hi (by omega))).to (v' := (.int .i64 ((M : Nat) : Int))) (by rw [shl_nat, hM])) (by kernel_rfl) (by kernel_rfl) (by kernel_rfl) rfl rfl (Sub.refl _) ?_
      refine wh_two U 7 9 (by kernel_rfl) rfl rfl rfl rfl rfl rfl (op_makeSlice U (m := M) (v := .int .i64 0) sl_26 rfl rfl rfl (by omega) (by omega) ⟨((Sub.refl H3).hset (fresh hlt3 (by omega))), ?_⟩) (op_alloc U z_139 rfl ⟨((Sub.refl H3).hset (fresh hlt3 (by omega))), ?_⟩)
      · skip
        refine wh_rd U 8 rfl (rd_build U (cells := #[(.slice xp x.2.length xcap), (.slice (some ⟨N3, 0, none⟩) M M)]) (by unfold P; kernel_rfl)) (by kernel_rfl) (by kernel_rfl) (by kernel_rfl) rfl rfl ((Sub.refl H3).hset (fresh hlt3 (by omega))) ?_
        refine wh_op U 9 (by kernel_rfl) rfl rfl rfl (op_alloc U z_139 rfl ⟨(((Sub.refl H3).hset (fresh hlt3 (by omega))).hset (fresh hlt3 (by omega))), ?_⟩)
        refine wh_op0 U 10 (by kernel_rfl) rfl rfl (op_store U (vs := [(.slice xp x.2.length xcap), (.slice (some ⟨N3, 0, none⟩) M M)]) (cs := [(.slice none 0 0), (.slice none 0 0)]) el_139 rfl rfl rfl rfl (one2 rfl rfl) (by first|exact hsy | exact (hsn (by omega)).trans hsy) (by omega) (by simp) ⟨((((Sub.refl H3).hset (fresh hlt3 (by omega))).hset (fresh hlt3 (by omega))).hset (fresh hlt3 (by omega))), ?_⟩)
        refine wh_done U (by kernel_rfl) ?_
        exact ⟨rfl, (N3 + 1), N3, ⟨rfl, rfl, rfl, rfl, rfl, rfl, rfl, trivial⟩, hsy, (hsn (by omega)).trans ((hsn (by omega)).trans hsy), by omega, by omega, by omega, ((((Sub.refl H3).hset (fresh hlt3 (by omega))).hset (fresh hlt3 (by omega))).hset (fresh hlt3 (by omega))), by omega⟩
      · skip
        refine wh_op U 7 (by kernel_rfl) rfl rfl rfl (op_makeSlice U (m := M) (v := .int .i64 0) sl_26 rfl rfl rfl (by omega) (by omega) ⟨(((Sub.refl H3).hset (fresh hlt3 (by omega))).hset (fresh hlt3 (by omega))), ?_⟩)
        refine wh_rd U 8 rfl (rd_build U (cells := #[(.slice xp x.2.length xcap), (.slice (some ⟨(N3 + 1), 0, none⟩) M M)]) (by unfold P; kernel_rfl)) (by kernel_rfl) (by kernel_rfl) (by kernel_rfl) rfl rfl (((Sub.refl H3).hset (fresh hlt3 (by omega))).hset (fresh hlt3 (by omega))) ?_
        refine wh_op0 U 10 (by kernel_rfl) rfl rfl (op_store U (vs := [(.slice xp x.2.length xcap), (.slice (some ⟨(N3 + 1), 0, none⟩) M M)]) (cs := [(.slice none 0 0), (.slice none 0 0)]) el_139 rfl rfl rfl rfl (one2 rfl rfl) (by first|exact hsy | exact (hsn (by omega)).trans hsy) (by omega) (by simp) ⟨((((Sub.refl H3).hset (fresh hlt3 (by omega))).hset (fresh hlt3 (by omega))).hset (fresh hlt3 (by omega))), ?_⟩)
        refine wh_done U (by kernel_rfl) ?_
        exact ⟨rfl, N3, (N3 + 1), ⟨rfl, rfl, rfl, rfl, rfl, rfl, rfl, trivial⟩, hsy, (hsn (by omega)).trans hsy, by omega, by omega, by omega, ((((Sub.refl H3).hset (fresh hlt3 (by omega))).hset (fresh hlt3 (by omega))).hset (fresh hlt3 (by omega))), by omega⟩
    rintro T4 H4 N4 ⟨tb, bb, hT4, htb4, hbb4, htbne, htbN, hbbN, hs4, hN4⟩
    obtain ⟨J4, rfl⟩ := hT4.ex
    repeat (first|refine nt ?_|refine nq ?_)
    refine wc_own U fun hBN4 hlt4 => ?_
    repeat (first|refine nt ?_|refine nq ?_|refine wq U ?_)
    refine wg U ?_
    refine wr U ((rfa U fb_139_1 rfl).to (v' := (.pointer (some ⟨tb, 1, none⟩))) rfl) rfl rfl ?_
    refine wr U (rl1 U el_26 rfl (v := (.slice (some ⟨bb, 0, none⟩) M M)) (by rw [rrw U (by omega) htb4]; rfl)) rfl rfl ?_
    refine wr U ((rd_len' U sl_26 rfl).to (v' := (.int .i64 ((M : Nat) : Int))) rfl) rfl rfl ?_
    refine wl_op U rfl rfl (op_makeSlice U (m := M) (v := .bool false) sl_67 rfl rfl rfl (by omega) (by omega) ?_)
    refine wl_op U rfl rfl (op_alloc U z_67 rfl ?_)
    refine wl_op0 U rfl (op_store U (vs := [(.slice (some ⟨N4, 0, none⟩) M M)]) (cs := [(.slice none 0 0)]) el_67 rfl rfl rfl rfl (one1 rfl) (by first|(rw [hsy]; done) | (rw [hsy]; rfl)) (by omega) (by simp) ?_)
    refine wz U ?_
    repeat (first|refine nt ?_|refine nq ?_)
    have htbl := hlt4 _ _ htb4; have hbbl := hlt4 _ _ hbb4
    refine wc_gen U (fun R5 => R5 tb = some (.row 139 0 [(.slice xp x.2.length xcap), (.slice (some ⟨bb, 0, none⟩) M M)] 2) ∧ R5 bb = some (.row 3 0 (nats (upT (beF (adj E) x ts) 0 M 0)) M) ∧ R5 N4 = some (.row 4 0 (bools (upT (inF (adj E) x ts) false M 0)) M) ∧ R5 (N4 + 1) = some (.row 67 0 [(.slice (some ⟨N4, 0, none⟩) M M)] 1) ∧ Sub H3 R5) ⟨(hsn (by omega)).trans ((hsn (by omega)).trans ((hsn (by omega)).trans htb4)), (hsn (by omega)).trans ((hsn (by omega)).trans ((hsn (by omega)).trans (by rw [upT_zero, ← nats_rep]; exact hbb4))), (hsn (by omega)).trans ((hsn (by omega)).trans (by rw [upT_zero, ← bools_rep]; exact hsy)), hsy, ((hs4.hset (fresh hlt3 (by omega))).hset (fresh hlt3 (by omega))).hset (fresh hlt3 (by omega))⟩ ?_
    rintro H5 ⟨htb5, hbb5, hin5, hib5, hs5⟩ hBN5 hlt5
    have htbB : U.B ≤ tb := htbl.1; have hbbB : U.B ≤ bb := hbbl.1
    repeat (first|refine nt ?_|refine nq ?_|refine wq U ?_)
    refine wg U ?_
    refine wr U ((rfa U fb_139_1 rfl).to (v' := (.pointer (some ⟨tb, 1, none⟩))) rfl) rfl rfl ?_
    refine wr U (rl1 U el_26 rfl (v := (.slice (some ⟨bb, 0, none⟩) M M)) (by rw [rrw U (by omega) htb5]; rfl)) rfl rfl ?_
    refine wr U ((rd_len' U sl_26 rfl).to (v' := (.int .i64 ((M : Nat) : Int))) rfl) rfl rfl ?_
    refine wr U ((rm U).to (v' := (.int .i64 0)) rfl) rfl rfl ?_
    refine wz U ?_
    have hnd : x.2.Nodup := hxs.imp Nat.ne_of_lt
    have hR3 : Sub R H3 := hR2.trans hs3
    have hmv3 := (hTw.ms.rds U (fun b o h => (hlt2 b o h).1)).sub U hs3
    have hmine : ∀ t ∈ mineT x.1 ts, t ∈ ts := fun t ht => (List.mem_filter.1 ht).1
    have hs97 : ∀ (s : Nat → Bool) (H7 : Hp) (N7 : Nat), Sub H3 H7 → Spec U 97 #[(.int .i64 ((encB all s : Nat) : Int)), av, mv] H7 N7 (fun v H' N' => v = .int .i64 ((sumT (mineT x.1 ts) s : Nat) : Int) ∧ Sub H7 H' ∧ N7 ≤ N') := fun s H7 N7 h => s97 U all s av mv um (mineT x.1 ts) hals (by omega) (fun y hy => by rcases hallm y hy with rfl | h; omega; have := hxb y h; omega) (fun t ht => ⟨hok.len t (hmine t ht), htl t (hmine t ht)⟩) (fun t ht y hy => by rw [← hall, mem_sortN]; exact (hok.mine ht y hy).elim (fun h => List.mem_append_right _ (by simp [h])) (fun h => List.mem_append_left _ h)) (Nat.le_trans (mineT_le _ _ _) (Nat.le_trans (hbd s) (by omega))) (by have := List.length_filter_le (fun t : Tab => decide (x.1 ∈ t.1)) ts; unfold mineT; omega) H7 N7 (hav.sub U h) (hmv3.sub U h) (hum.sub U (hR3.trans h))
    have hsb3 : H3 sb = some (.row 101 0 [nv, (.slice tp us.length tcap), dv] 3) := hs3 _ _ (hs2 _ _ hx_1)
    repeat (first|refine nt ?_|refine nq ?_|refine wq U ?_)
    refine wc_block U ?_
    refine wc_loop U (fun m T H' N' => ∃ (c : Nat), c ≤ M ∧ m = M - c ∧ Has T [(0, (.pointer (some ⟨sb, 0, none⟩))), (3, (.pointer (some ⟨N, 0, none⟩))), (4, mv), (5, rv), (8, av), (9, (.int .i64 ((la.length : Nat) : Int))), (11, (.pointer (some ⟨tb, 0, none⟩))), (12, (.pointer (some ⟨(N4 + 1), 0, none⟩))), (71, (.int .i64 ((M : Nat) : Int))), (72, (.int .i64 ((c : Nat) : Int)))] ∧ (H' tb = some (.row 139 0 [(.slice xp x.2.length xcap), (.slice (some ⟨bb, 0, none⟩) M M)] 2) ∧ H' bb = some (.row 3 0 (nats (upT (beF (adj E) x ts) 0 M c)) M) ∧ H' N4 = some (.row 4 0 (bools (upT (inF (adj E) x ts) false M c)) M) ∧ H' (N4 + 1) = some (.row 67 0 [(.slice (some ⟨N4, 0, none⟩) M M)] 1) ∧ Sub H3 H') ∧ N4 + 2 ≤ N') M ⟨0, Nat.zero_le _, rfl, ⟨rfl, rfl, rfl, rfl, rfl, rfl, rfl, rfl, rfl, rfl, trivial⟩, ⟨htb5, hbb5, hin5, hib5, hs5⟩, Nat.le_refl _⟩ ?_
    clear htb5 hbb5 hin5 hib5 hs5 hbb4 htb4
    rintro m T H6 N6 ⟨c, hcM, rfl, hT, ⟨htb6, hbb6, hin6, hib6, hs6⟩, hN6⟩
    obtain ⟨J, rfl⟩ := hT.ex
    refine wc_own U fun hBN6 hlt6 => ?_
    repeat (first|refine nt ?_|refine nq ?_|refine wq U ?_)
    refine wg U ?_
    refine wr U (rd_lss U rfl rfl) rfl rfl ?_
    refine wz U ?_
    repeat (first|refine nt ?_|refine nq ?_|refine wq U ?_)
    refine wcd U (t := (decide (((c : Nat) : Int) < ((M : Nat) : Int)))) rfl (fun hcm => ?_) fun hcm => ?_
    · replace hcm := of_decide_eq_true hcm
      refine wsk U ?_
      repeat (first|refine nt ?_|refine nq ?_)
      have hc1 : c < M := by omega
      have hcx : c < 2 ^ x.2.length := by omega
      have hmod : c % 2 ^ la.length ≤ c := Nat.mod_le _ _
      have hout := out_eq (c := c) hva hvb (by rw [← hnear]; exact hnd) (by rw [← hnear]; exact hcx)
      rw [← hnear, hall0] at hout
      have hinq := in_eq (c := c) hva hvb
      rw [← hnear, hall0] at hinq
      have hp60 := pow_lt (i := la.length) (by omega)
      have hpp := Nat.two_pow_pos la.length
      have hbe1 : inF (adj E) x ts c = true → beF (adj E) x ts c = sB x ts c true + 1 := fun h => by simp [beF, h]
      have hbe0 : inF (adj E) x ts c = false → beF (adj E) x ts c = sB x ts c false := fun h => by simp [beF, h]
      have hsm0 : sB x ts c false ≤ 900 := Nat.le_trans (mineT_le _ _ _) (hbd _)
      have hsm1 : sB x ts c true ≤ 900 := Nat.le_trans (mineT_le _ _ _) (hbd _)
      have hos : encB all (setB (decN x.2 c) x.1 false) < 4611686018427387904 := encB_small (by omega)
      repeat (first|refine nt ?_|refine nq ?_|refine wq U ?_)
      refine wc_block U ?_
      repeat (first|refine nt ?_|refine nq ?_|refine wq U ?_)
      refine wg U ?_
      refine wr U ((rm U).to (v' := (.int .i64 ((c : Nat) : Int))) rfl) rfl rfl ?_
      refine wr U ((ra U).to (v' := (.int .i64 ((c : Nat) : Int))) rfl) rfl rfl ?_
      refine wz U ?_
      repeat (first|refine nt ?_|refine nq ?_|refine wq U ?_)
      refine wg U ?_
      refine wr U ((rm U).to (v' := (.int .i64 ((c : Nat) : Int))) rfl) rfl rfl ?_
      refine wr U ((rm U).to (v' := (.int .i64 ((la.length : Nat) : Int))) rfl) rfl rfl ?_
      refine wr U ((rd_conv U u_3 u_77 rfl).to (v' := (.int .u64 ((la.length : Nat) : Int))) (congrArg _ (u64_nat (by omega)))) rfl rfl ?_
      refine wr U ((rd_shl U rfl rfl (by omega) (by omega) (shl_lo _) (shl_hi (by omega))).to (v' := (.int .i64 ((2 ^ la.length : Nat) : Int))) (shl_nat _)) rfl rfl ?_
      refine wr U ((rd_sub' U rfl rfl (by omega) (by omega)).to (v' := (.int .i64 ((2 ^ la.length - 1 : Nat) : Int))) (congrArg _ (by omega))) rfl rfl ?_
      refine wr U ((rd_bits U (.inl rfl) rfl rfl (bits_and (by omega) (by omega))).to (v' := (.int .i64 ((c % 2 ^ la.length : Nat) : Int))) (by rw [Nat.and_two_pow_sub_one_eq_mod])) rfl rfl ?_
      refine wr U ((ra U).to (v' := (.int .i64 ((c % 2 ^ la.length : Nat) : Int))) rfl) rfl rfl ?_
      refine wz U ?_
      repeat (first|refine nt ?_|refine nq ?_|refine wq U ?_)
      refine wg U ?_
      refine wr U ((rm U).to (v' := (.int .i64 ((c % 2 ^ la.length : Nat) : Int))) rfl) rfl rfl ?_
      refine wr U ((rm U).to (v' := (.int .i64 ((c : Nat) : Int))) rfl) rfl rfl ?_
      refine wr U ((rm U).to (v' := (.int .i64 ((c % 2 ^ la.length : Nat) : Int))) rfl) rfl rfl ?_
      refine wr U ((rd_sub' U rfl rfl (by omega) (by omega)).to (v' := (.int .i64 ((c - c % 2 ^ la.length : Nat) : Int))) (congrArg _ (by omega))) rfl rfl ?_
      refine wr U ((rd_shl U rfl rfl (by decide) (by decide) (by rw [show (2 : Int) ^ Int.toNat 1 = 2 from rfl]; omega) (by rw [show (2 : Int) ^ Int.toNat 1 = 2 from rfl]; omega)).to (v' := (.int .i64 (((c - c % 2 ^ la.length) * 2 : Nat) : Int))) (congrArg _ (by rw [show (2 : Int) ^ Int.toNat 1 = 2 from rfl]; omega))) rfl rfl ?_
      refine wr U ((rd_bits U (.inr rfl) rfl rfl (bits_or (by omega) (by omega))).to (v' := (.int .i64 ((encB all (setB (decN x.2 c) x.1 false) : Nat) : Int))) (by rw [hout])) rfl rfl ?_
      refine wr U ((ra U).to (v' := (.int .i64 ((encB all (setB (decN x.2 c) x.1 false) : Nat) : Int))) rfl) rfl rfl ?_
      refine wz U ?_
      repeat (first|refine nt ?_|refine nq ?_|refine wq U ?_)
      obtain ⟨R_5, hR_5⟩ : ∃ R, ofl [(tb, .row 139 0 [(.slice xp x.2.length xcap), (.slice (some ⟨bb, 0, none⟩) M M)] 2)] = R := ⟨_, rfl⟩
      have hsR_5 : ∀ {X : Hp}, X tb = some (.row 139 0 [(.slice xp x.2.length xcap), (.slice (some ⟨bb, 0, none⟩) M M)] 2) → Sub R_5 X := fun {X} h0 => hR_5 ▸ sub_ofl (H := X) (by intro p hp; simp only [List.mem_cons, List.not_mem_nil, or_false] at hp; rcases hp with rfl <;> assumption)
      have hx_6 : R_5 tb = some (.row 139 0 [(.slice xp x.2.length xcap), (.slice (some ⟨bb, 0, none⟩) M M)] 2) := by rw [← hR_5]; exact hsy
      refine wc_draw U R_5 mixed ?_
      refine wh_rd U 0 rfl ((rfa U fb_139_1 rfl).to (v' := (.pointer (some ⟨tb, 1, none⟩))) rfl) (by kernel_rfl) (by kernel_rfl) (by kernel_rfl) rfl rfl (hsR_5 htb6) ?_
      refine wh_rd U 1 rfl (rl1 U el_26 rfl (v := (.slice (some ⟨bb, 0, none⟩) M M)) (by rw [rrw U (by omega) hx_6]; rfl)) (by kernel_rfl) (by kernel_rfl) (by kernel_rfl) rfl rfl (hsR_5 htb6) ?_
      refine wh_rd U 2 rfl ((rm U).to (v' := (.int .i64 ((c : Nat) : Int))) rfl) (by kernel_rfl) (by kernel_rfl) (by kernel_rfl) rfl rfl (hsR_5 htb6) ?_
      refine wh_rd U 3 rfl ((rm U).to (v' := (.int .i64 ((encB all (setB (decN x.2 c) x.1 false) : Nat) : Int))) rfl) (by kernel_rfl) (by kernel_rfl) (by kernel_rfl) rfl rfl (hsR_5 htb6) ?_
      refine wh_rd U 4 rfl ((rm U).to (v' := av) rfl) (by kernel_rfl) (by kernel_rfl) (by kernel_rfl) rfl rfl (hsR_5 htb6) ?_
      refine wh_rd U 5 rfl ((rm U).to (v' := mv) rfl) (by kernel_rfl) (by kernel_rfl) (by kernel_rfl) rfl rfl (hsR_5 htb6) ?_
      refine wh_op U 6 (by kernel_rfl) rfl rfl rfl (op_call U Tryz.f97 rfl rfl pf_97 (by kernel_rfl) (by kernel_rfl) ((hs97 (setB (decN x.2 c) x.1 false) _ _ hs6).mono U ?_))
      rintro _ H7 N7 ⟨rfl, hs7, hN7⟩
      refine ⟨(hsR_5 (hs7 _ _ htb6)), ?_⟩
      refine wh_rd U 7 rfl (rd_idx1 U (j := c) sl_26 rfl rfl hc1) (by kernel_rfl) (by kernel_rfl) (by kernel_rfl) rfl rfl (hsR_5 (hs7 _ _ htb6)) ?_
      refine wh_op0 U 8 (by kernel_rfl) rfl rfl (op_store1 U el_3 rfl rfl rfl rfl (hs7 _ _ hbb6) (by omega) (by rw [nats_length, upT_length]; omega) ⟨hsR_5 ((hsn (by omega)).trans (hs7 _ _ htb6)), ?_⟩)
      refine wh_done U (by kernel_rfl) ?_
      repeat (first|refine nt ?_|refine nq ?_)
      have hbbH3 : H3 bb = none := fresh hlt3 (by omega)
      refine wc_gen U (fun R5 => R5 tb = some (.row 139 0 [(.slice xp x.2.length xcap), (.slice (some ⟨bb, 0, none⟩) M M)] 2) ∧ R5 bb = some (.row 3 0 (nats ((upT (beF (adj E) x ts) 0 M c).set c (sB x ts c false))) M) ∧ R5 N4 = some (.row 4 0 (bools (upT (inF (adj E) x ts) false M c)) M) ∧ R5 (N4 + 1) = some (.row 67 0 [(.slice (some ⟨N4, 0, none⟩) M M)] 1) ∧ Sub H3 R5) ⟨(hsn (by omega)).trans (hs7 _ _ htb6), by rw [← nats_set]; exact hsy, (hsn (by omega)).trans (hs7 _ _ hin6), (hsn (by omega)).trans (hs7 _ _ hib6), (hs6.trans hs7).hset hbbH3⟩ ?_
      rintro H8 ⟨htb8, hbb8, hin8, hib8, hs8⟩ hBN8 hlt8
      have hx8 := hs8 _ _ hxT
      have hs98 := s98 U n E hg sb nv (.slice tp us.length tcap) dv x.1 x.2 (decN x.2 c) _ hxn (by omega) H8 N7 (hs8 _ _ hsb3) (hnr.sub U (hR3.trans hs8)) (hxr.sub U (hR3.trans hs8))
      rw [encB_dec hnd hcx] at hs98
      repeat (first|refine nt ?_|refine nq ?_|refine wq U ?_)
      refine wg U ?_
      refine wr U ((rm U).to (v' := (.pointer (some ⟨sb, 0, none⟩))) rfl) rfl rfl ?_
      refine wr U ((rfa U fb_106_0 rfl).to (v' := (.pointer (some ⟨N, 0, none⟩))) rfl) rfl rfl ?_
      refine wr U (rl1 U el_3 rfl (v := (.int .i64 ((x.1 : Nat) : Int))) (by rw [rrw U (by omega) hx8]; rfl)) rfl rfl ?_
      refine wr U ((rm U).to (v' := (.int .i64 ((c : Nat) : Int))) rfl) rfl rfl ?_
      refine wr U ((rfa U fb_106_1 rfl).to (v' := (.pointer (some ⟨N, 1, none⟩))) rfl) rfl rfl ?_
      refine wr U (rl1 U el_26 rfl (v := (.slice xp x.2.length xcap)) (by rw [rrw U (by omega) hx8]; rfl)) rfl rfl ?_
      refine wl_op U rfl rfl (op_call U Tryz.f98 rfl rfl pf_98 (by kernel_rfl) (by kernel_rfl) ((hs98).mono U ?_))
      rintro _ _ _ ⟨⟨bo, rfl, hbo⟩, rfl, rfl⟩
      refine wr U (rd_not U rfl) rfl rfl ?_
      refine wz U ?_
      have halF : alF (adj E) x c = bo := by rw [Bool.eq_iff_iff]; simp only [alF, decide_eq_true_eq]; exact hbo.symm
      repeat (first|refine nt ?_|refine nq ?_|refine wq U ?_)
      refine wcd U (t := (!bo)) rfl (fun hal => ?_) fun hal => ?_
      · skip
        have hif : inF (adj E) x ts c = false := by unfold inF; rw [halF]; cases bo <;> simp at hal ⊢
        refine wc_exit U ?_
        repeat (first|refine xt ?_|refine xps (by decide) ?_)
        refine xbl ?_
        repeat (first|refine nt ?_|refine nq ?_)
        repeat (first|refine nt ?_|refine nq ?_|refine wq U ?_)
        refine wg U ?_
        refine wr U (rd_add U rfl rfl (by omega) (by omega)) rfl rfl ?_
        refine wr U ((rm U).to (v' := (.int .i64 (((c : Nat) : Int) + 1))) rfl) rfl rfl ?_
        refine wz U ?_
        repeat (first|refine nt ?_|refine nq ?_)
        exact ⟨M - (c + 1), by omega, c + 1, by omega, rfl, ⟨rfl, rfl, rfl, rfl, rfl, rfl, rfl, rfl, rfl, rfl, trivial⟩, ⟨htb8, by rw [← upT_set (beF (adj E) x ts) 0 hc1, hbe0 hif]; exact hbb8, by rw [← upT_keep (inF (adj E) x ts) false hif]; exact hin8, hib8, hs8⟩, by omega⟩
      · skip
        have hbt : bo = true := by cases bo <;> simp at hal ⊢
        refine wsk U ?_
        repeat (first|refine nt ?_|refine nq ?_)
        repeat (first|refine nt ?_|refine nq ?_|refine wq U ?_)
        refine wg U ?_
        refine wr U ((rm U).to (v' := (.int .i64 ((encB all (setB (decN x.2 c) x.1 false) : Nat) : Int))) rfl) rfl rfl ?_
        refine wr U ((rm U).to (v' := (.int .i64 ((la.length : Nat) : Int))) rfl) rfl rfl ?_
        refine wr U ((rd_conv U u_3 u_77 rfl).to (v' := (.int .u64 ((la.length : Nat) : Int))) (congrArg _ (u64_nat (by omega)))) rfl rfl ?_
        refine wr U ((rd_shl U rfl rfl (by omega) (by omega) (shl_lo _) (shl_hi (by omega))).to (v' := (.int .i64 ((2 ^ la.length : Nat) : Int))) (shl_nat _)) rfl rfl ?_
        refine wr U ((rd_bits U (.inr rfl) rfl rfl (bits_or (by omega) (by omega))).to (v' := (.int .i64 ((encB all (setB (decN x.2 c) x.1 true) : Nat) : Int))) (by rw [hinq])) rfl rfl ?_
        refine wr U ((rm U).to (v' := av) rfl) rfl rfl ?_
        refine wr U ((rm U).to (v' := mv) rfl) rfl rfl ?_
        refine wl_op U rfl rfl (op_call U Tryz.f97 rfl rfl pf_97 (by kernel_rfl) (by kernel_rfl) ((hs97 (setB (decN x.2 c) x.1 true) _ _ hs8).mono U ?_))
        rintro _ H9 N9 ⟨rfl, hs9, hN9⟩
        refine wr U ((ra U).to (v' := (.int .i64 ((sB x ts c true : Nat) : Int))) rfl) rfl rfl ?_
        refine wz U ?_
        repeat (first|refine nt ?_|refine nq ?_)
        have hbb9 := hs9 _ _ hbb8
        have hg9 : (nats ((upT (beF (adj E) x ts) 0 M c).set c (sB x ts c false)))[c]? = some (.int .i64 ((sB x ts c false : Nat) : Int)) := nats_get? (by rw [List.getElem?_set, if_pos rfl, if_pos (by rw [upT_length]; exact hc1)])
        repeat (first|refine nt ?_|refine nq ?_|refine wq U ?_)
        refine wg U ?_
        refine wr U ((rm U).to (v' := (.int .i64 ((sB x ts c true : Nat) : Int))) rfl) rfl rfl ?_
        refine wr U ((rd_geq U rfl rfl).to (v' := (.bool true)) (congrArg Value.bool (decide_eq_true (by omega)))) rfl rfl ?_
        refine wr U ((rm U).to (v' := (.bool true)) rfl) rfl rfl ?_
        refine wr U ((rm U).to (v' := (.int .i64 ((sB x ts c true : Nat) : Int))) rfl) rfl rfl ?_
        refine wr U (rd_add U rfl rfl (by omega) (by omega)) rfl rfl ?_
        refine wr U ((rfa U fb_139_1 rfl).to (v' := (.pointer (some ⟨tb, 1, none⟩))) rfl) rfl rfl ?_
        refine wr U (rl1 U el_26 rfl (v := (.slice (some ⟨bb, 0, none⟩) M M)) (by rw [rrw U (by omega) (hs9 _ _ htb8)]; rfl)) rfl rfl ?_
        refine wr U ((rm U).to (v' := (.int .i64 ((c : Nat) : Int))) rfl) rfl rfl ?_
        refine wr U (rd_idx1 U (j := c) sl_26 rfl rfl hc1) rfl rfl ?_
        refine wr U (rl1 U el_3 rfl (v := (.int .i64 ((sB x ts c false : Nat) : Int))) (rd_at U (by omega) hbb9 hg9)) rfl rfl ?_
        refine wr U (rd_gtr U rfl rfl) rfl rfl ?_
        refine wr U ((rd_pick U rfl).to (v' := (.bool (decide (((sB x ts c false : Nat) : Int) < ((sB x ts c true : Nat) : Int) + 1)))) rfl) rfl rfl ?_
        refine wz U ?_
        repeat (first|refine nt ?_|refine nq ?_|refine wq U ?_)
        refine wcd U (t := (decide (((sB x ts c false : Nat) : Int) < ((sB x ts c true : Nat) : Int) + 1))) rfl (fun hgt => ?_) fun hgt => ?_
        · replace hgt := of_decide_eq_true hgt
          have hif : inF (adj E) x ts c = true := by unfold inF; rw [halF, hbt, Bool.true_and, decide_eq_true_eq]; omega
          have htb9 := hs9 _ _ htb8; have hib9 := hs9 _ _ hib8; have hin9 := hs9 _ _ hin8
          repeat (first|refine nt ?_|refine nq ?_|refine wq U ?_)
          obtain ⟨R_7, hR_7⟩ : ∃ R, ofl [(tb, .row 139 0 [(.slice xp x.2.length xcap), (.slice (some ⟨bb, 0, none⟩) M M)] 2), ((N4 + 1), .row 67 0 [(.slice (some ⟨N4, 0, none⟩) M M)] 1)] = R := ⟨_, rfl⟩
          have hsR_7 : ∀ {X : Hp}, X tb = some (.row 139 0 [(.slice xp x.2.length xcap), (.slice (some ⟨bb, 0, none⟩) M M)] 2) → X (N4 + 1) = some (.row 67 0 [(.slice (some ⟨N4, 0, none⟩) M M)] 1) → Sub R_7 X := fun {X} h0 h1 => hR_7 ▸ sub_ofl (H := X) (by intro p hp; simp only [List.mem_cons, List.not_mem_nil, or_false] at hp; rcases hp with rfl | rfl <;> assumption)
          have hx_8 : R_7 tb = some (.row 139 0 [(.slice xp x.2.length xcap), (.slice (some ⟨bb, 0, none⟩) M M)] 2) := by rw [← hR_7]; exact hsy
          have hx_9 : R_7 (N4 + 1) = some (.row 67 0 [(.slice (some ⟨N4, 0, none⟩) M M)] 1) := by rw [← hR_7]; exact (hsn (b := (N4 + 1)) (c := tb) (by omega)).trans hsy
          refine wc_draw U R_7 mixed ?_
          refine wh_rd U 0 rfl ((rfa U fb_139_1 rfl).to (v' := (.pointer (some ⟨tb, 1, none⟩))) rfl) (by kernel_rfl) (by kernel_rfl) (by kernel_rfl) rfl rfl (hsR_7 htb9 hib9) ?_
          refine wh_rd U 1 rfl (rl1 U el_26 rfl (v := (.slice (some ⟨bb, 0, none⟩) M M)) (by rw [rrw U (by omega) hx_8]; rfl)) (by kernel_rfl) (by kernel_rfl) (by kernel_rfl) rfl rfl (hsR_7 htb9 hib9) ?_
          refine wh_rd U 2 rfl ((rm U).to (v' := (.int .i64 ((c : Nat) : Int))) rfl) (by kernel_rfl) (by kernel_rfl) (by kernel_rfl) rfl rfl (hsR_7 htb9 hib9) ?_
          refine wh_rd U 3 rfl (rl1 U el_67 rfl (v := (.slice (some ⟨N4, 0, none⟩) M M)) (by rw [rrw U (by omega) hx_9]; rfl)) (by kernel_rfl) (by kernel_rfl) (by kernel_rfl) rfl rfl (hsR_7 htb9 hib9) ?_
          refine wh_rd U 4 rfl ((rm U).to (v' := (.int .i64 ((c : Nat) : Int))) rfl) (by kernel_rfl) (by kernel_rfl) (by kernel_rfl) rfl rfl (hsR_7 htb9 hib9) ?_
          refine wh_rd U 5 rfl ((rm U).to (v' := (.int .i64 ((sB x ts c true : Nat) : Int))) rfl) (by kernel_rfl) (by kernel_rfl) (by kernel_rfl) rfl rfl (hsR_7 htb9 hib9) ?_
          refine wh_rd U 6 rfl ((rd_add U rfl rfl (by omega) (by omega)).to (v' := (.int .i64 ((sB x ts c true + 1 : Nat) : Int))) (congrArg _ (by omega))) (by kernel_rfl) (by kernel_rfl) (by kernel_rfl) rfl rfl (hsR_7 htb9 hib9) ?_
          refine wh_rd U 7 rfl (rd_idx1 U (j := c) sl_26 rfl rfl hc1) (by kernel_rfl) (by kernel_rfl) (by kernel_rfl) rfl rfl (hsR_7 htb9 hib9) ?_
          refine wh_op0 U 8 (by kernel_rfl) rfl rfl (op_store1 U el_3 rfl rfl rfl rfl hbb9 (by omega) (by rw [nats_length, List.length_set, upT_length]; omega) ⟨(hsR_7 ((hsn (by omega)).trans htb9) ((hsn (by omega)).trans hib9)), ?_⟩)
          refine wh_rd U 9 rfl (rd_idx1 U (j := c) sl_67 rfl rfl hc1) (by kernel_rfl) (by kernel_rfl) (by kernel_rfl) rfl rfl (hsR_7 ((hsn (by omega)).trans htb9) ((hsn (by omega)).trans hib9)) ?_
          refine wh_op0 U 10 (by kernel_rfl) rfl rfl (op_store1 U el_4 rfl rfl rfl rfl ((hsn (by omega)).trans hin9) (by omega) (by rw [bools_length, upT_length]; omega) ⟨(hsR_7 ((hsn (by omega)).trans ((hsn (by omega)).trans htb9)) ((hsn (by omega)).trans ((hsn (by omega)).trans hib9))), ?_⟩)
          refine wh_done U (by kernel_rfl) ?_
          repeat (first|refine nt ?_|refine nq ?_)
          repeat (first|refine nt ?_|refine nq ?_|refine wq U ?_)
          refine wg U ?_
          refine wr U (rd_add U rfl rfl (by omega) (by omega)) rfl rfl ?_
          refine wr U ((rm U).to (v' := (.int .i64 (((c : Nat) : Int) + 1))) rfl) rfl rfl ?_
          refine wz U ?_
          repeat (first|refine nt ?_|refine nq ?_)
          exact ⟨M - (c + 1), by omega, c + 1, by omega, rfl, ⟨rfl, rfl, rfl, rfl, rfl, rfl, rfl, rfl, rfl, rfl, trivial⟩, ⟨(hsn (by omega)).trans ((hsn (by omega)).trans htb9), by rw [← upT_set (beF (adj E) x ts) 0 hc1, hbe1 hif]; exact (hsn (by omega)).trans (hsy.trans (congrArg (fun l => some (Blk.row 3 0 l M)) (nats_set2 _ c (sB x ts c false) (sB x ts c true + 1)))), by rw [← upT_set (inF (adj E) x ts) false hc1, hif, ← bools_set]; exact hsy, (hsn (by omega)).trans ((hsn (by omega)).trans hib9), ((hs8.trans hs9).hset hbbH3).hset (fresh hlt3 (by omega))⟩, by omega⟩
        · replace hgt := of_decide_eq_false hgt
          have hif : inF (adj E) x ts c = false := by unfold inF; rw [halF, hbt, Bool.true_and, decide_eq_false_iff_not]; omega
          refine wsk U ?_
          repeat (first|refine nt ?_|refine nq ?_)
          repeat (first|refine nt ?_|refine nq ?_|refine wq U ?_)
          refine wg U ?_
          refine wr U (rd_add U rfl rfl (by omega) (by omega)) rfl rfl ?_
          refine wr U ((rm U).to (v' := (.int .i64 (((c : Nat) : Int) + 1))) rfl) rfl rfl ?_
          refine wz U ?_
          repeat (first|refine nt ?_|refine nq ?_)
          exact ⟨M - (c + 1), by omega, c + 1, by omega, rfl, ⟨rfl, rfl, rfl, rfl, rfl, rfl, rfl, rfl, rfl, rfl, trivial⟩, ⟨hs9 _ _ htb8, by rw [← upT_set (beF (adj E) x ts) 0 hc1, hbe0 hif]; exact hbb9, by rw [← upT_keep (inF (adj E) x ts) false hif]; exact hs9 _ _ hin8, hs9 _ _ hib8, hs8.trans hs9⟩, by omega⟩
    · replace hcm := of_decide_eq_false hcm
      refine wc_exit U ?_
      repeat (first|refine xt ?_|refine xps (by decide) ?_)
      refine xbl ?_
      repeat (first|refine nt ?_|refine nq ?_)
      obtain rfl : M = c := by omega
      rw [upT_all] at hbb6 hin6
      have hsb6 := hs6 _ _ hsb3
      have hrvb : ∀ c, blkOf rv = some c → N + 1 ≤ c ∧ c < N2 := fun c hc => ⟨hTw.rl c hc, (hTw.rs.lt hlt2 hc).2⟩
      have hrv6 : IsSl H6 rv 139 2 (ttc ur) := (hTw.rs.sub hs3).sub hs6
      have hdv6 : IsSl H6 dv 63 1 dc := (((hdc.sub hs1).sub hs2).sub hs3).sub hs6
      have hdvN : ∀ c, blkOf dv = some c → c < N := fun c hc => (hdc.lt hlt hc).2
      repeat (first|refine nt ?_|refine nq ?_|refine wq U ?_)
      refine wg U ?_
      refine wr U ((rm U).to (v' := (.pointer (some ⟨sb, 0, none⟩))) rfl) rfl rfl ?_
      refine wr U ((rm U).to (v' := rv) rfl) rfl rfl ?_
      refine wr U (rd_load2 U el_139 rfl (v0 := (.slice xp x.2.length xcap)) (v1 := (.slice (some ⟨bb, 0, none⟩) M M))  (by rw [rrw U (by omega) htb6]; rfl) (by rw [rrw U (by omega) htb6]; rfl)) rfl rfl ?_
      refine wl_op U rfl rfl (op_bs U sl_98 rfl (by decide) (by decide) [(.agg #[(.slice xp x.2.length xcap), (.slice (some ⟨bb, 0, none⟩) M M)])] rfl (by simp [Value.cells]) rfl (cs := [(.slice xp x.2.length xcap), (.slice (some ⟨bb, 0, none⟩) M M)]) rfl ?_)
      refine wl_op U rfl rfl (op_append1 U (H0 := _) (cs := ttc ur) (ys := [(.slice xp x.2.length xcap), (.slice (some ⟨bb, 0, none⟩) M M)]) sl_98 rfl (by decide) rfl hrv6 (fun hc => by have := (hrvb _ hc).2; omega) rfl rfl rfl (by omega) (one2 rfl rfl) (by rw [ttc_length]; omega) (by rw [ttc_length]; omega) ?_)
      intro wA HA NA hNA hslA hfrA hloA
      have hA : ∀ c, c < N6 → blkOf rv ≠ some c → HA c = H6 c := fun c hc hne => (hfrA c (by omega) hne).trans (hsn (by omega))
      have hrvn : ∀ c, c < N + 1 ∨ N2 ≤ c → blkOf rv ≠ some c := fun c hc h => by have := hrvb c h; omega
      have hsbA := (hA sb (by omega) (hrvn sb (by omega))).trans hsb6
      have honA := oneS hslA
      have hsbG : U.B ≤ sb := hsbB.1
      refine wr U (rd_nilCheck U rfl) rfl rfl ?_
      refine wr U ((rfa U fb_101_1 rfl).to (v' := (.pointer (some ⟨sb, 1, none⟩))) rfl) rfl rfl ?_
      refine wl_op0 U rfl (op_store U (vs := [wA]) (cs := [nv, (.slice tp us.length tcap), dv]) el_98 rfl rfl honA.1 rfl (one1 honA.2) hsbA (by omega) (by simp) ?_)
      refine wz U ?_
      repeat (first|refine nt ?_|refine nq ?_)
      have hdvA : IsSl (hset HA sb (.row 101 0 [nv, wA, dv] 3)) dv 63 1 dc := hdv6.at fun c hc => (hsn (fun h => hds (by rw [← h]; exact hc))).trans (hA c (by have := hdvN c hc; omega) (hrvn c (by have := hdvN c hc; omega)))
      repeat (first|refine nt ?_|refine nq ?_|refine wq U ?_)
      refine wg U ?_
      refine wr U ((rm U).to (v' := (.pointer (some ⟨sb, 0, none⟩))) rfl) rfl rfl ?_
      refine wr U ((rm U).to (v' := (.pointer (some ⟨sb, 0, none⟩))) rfl) rfl rfl ?_
      refine wr U (rd_nilCheck U rfl) rfl rfl ?_
      refine wr U ((rfa U fb_101_2 rfl).to (v' := (.pointer (some ⟨sb, 2, none⟩))) rfl) rfl rfl ?_
      refine wr U (rl1 U el_99 rfl (v := dv) (by rw [rhq U (by omega)]; rfl)) rfl rfl ?_
      refine wr U ((rd_makeFunc U).to (v' := (.func (.func 99) #[] #[(.pointer (some ⟨(N4 + 1), 0, none⟩))])) rfl) rfl rfl ?_
      refine wl_op U rfl rfl (op_bs U sl_99 rfl (by decide) (by decide) [(.func (.func 99) #[] #[(.pointer (some ⟨(N4 + 1), 0, none⟩))])] rfl (by simp [Value.cells]) rfl (cs := [(.func (.func 99) #[] #[(.pointer (some ⟨(N4 + 1), 0, none⟩))])]) rfl ?_)
      refine wl_op U rfl rfl (op_append1 U (H0 := _) (cs := dc) (ys := [(clo (N4 + 1))]) sl_99 rfl (by decide) rfl hdvA (fun hc => by have := hdvN _ hc; omega) rfl rfl rfl (by omega) (one1 rfl) (by omega) (by omega) ?_)
      intro wB HB NB hNB hslB hfrB hloB
      have honB := oneS hslB
      have hB : ∀ c, c < NA → c ≠ sb → blkOf dv ≠ some c → HB c = HA c := fun c hc hne hne2 => (hfrB c (by omega) hne2).trans ((hsn (by omega)).trans (hsn hne))
      have hsbBB : HB sb = some (.row 101 0 [nv, wA, dv] 3) := (hfrB sb (by omega) hds).trans ((hsn (by omega)).trans hsy)
      refine wr U (rd_nilCheck U rfl) rfl rfl ?_
      refine wr U ((rfa U fb_101_2 rfl).to (v' := (.pointer (some ⟨sb, 2, none⟩))) rfl) rfl rfl ?_
      refine wl_op0 U rfl (op_store U (vs := [wB]) (cs := [nv, wA, dv]) el_99 rfl rfl honB.1 rfl (one1 honB.2) hsbBB (by omega) (by simp) ?_)
      refine wl_own U fun hBNF hltF => ?_
      refine wz U ?_
      repeat (first|refine nt ?_|refine nq ?_)
      obtain ⟨cA, hcA1, hcA2, hcA3⟩ := hloA; obtain ⟨cB, hcB1, hcB2, hcB3⟩ := hloB
      have hcAl : N + 1 ≤ cA := by rcases hcA3 with h | h; exact (hrvb _ h).1; omega
      have hcBl : cB < N ∨ NA < cB := by rcases hcB3 with h | h; exact .inl (hdvN _ h); exact .inr (by omega)
      have hcBs : cB ≠ sb := by rcases hcB3 with h | h; exact fun e => hds (by rw [← e]; exact h); omega
      obtain ⟨HF, hHF⟩ : ∃ F, hset HB sb (.row 101 0 [nv, wA, wB] 3) = F := ⟨_, rfl⟩
      have hFB : ∀ c, c ≠ sb → HF c = HB c := fun c hc => by rw [← hHF]; exact hsn hc
      obtain ⟨R2, hR2d⟩ : ∃ F : Hp, (fun c => if c < N then R c else hdel HF cB c) = F := ⟨_, rfl⟩
      have hR2l : ∀ c, c < N → R2 c = R c := fun c hc => by rw [← hR2d]; exact if_pos hc
      have hR2c : ∀ c, N ≤ c → c ≠ cB → R2 c = HF c := fun c h1 h2 => by rw [← hR2d]; show (if c < N then R c else hdel HF cB c) = HF c; rw [if_neg (by omega), hdel_ne h2]
      have hR2n : R2 cB = none := by
        rcases hcB3 with h | h
        · rw [hR2l _ (hdvN _ h)]; exact hRd _ h
        · rw [← hR2d]; show (if cB < N then R cB else hdel HF cB cB) = none; rw [if_neg (by omega)]; simp [hdel]
      have hmid : ∀ c, N ≤ c → c < NA → c ≠ cB → R2 c = HA c := fun c h0 h1 h3 => (hR2c c h0 h3).trans ((hFB c (by omega)).trans (hB c h1 (by omega) (fun h => by have := hdvN c h; omega)))
      have hdvn : ∀ c, N ≤ c → blkOf dv ≠ some c := fun c hc h => by have := hdvN c h; omega
      have hown : ∀ c, N2 ≤ c → c < N6 → R2 c = H6 c := fun c h1 h2 => (hmid c (by omega) (by omega) (by omega)).trans (hA c h2 (hrvn c (by omega)))
      have hframe : ∀ c o, H c = some o → c ≠ sb → blkOf dv ≠ some c → HF c = some o := fun c o hc h2 h3 => by
        have h1 := (hlt c o hc).2
        rw [hFB c h2, hB c (by omega) h2 h3, hA c (by omega) (hrvn c (by omega))]; exact hs6 c o (hs3 c o (hs2 c o (hs1 c o hc)))
      have hRR2 : Sub R R2 := fun c o hc => by rw [hR2l c (hlt c o (hR c o hc)).2]; exact hc
      have hRF : Sub R2 HF := fun c o hc => by
        rcases Nat.lt_or_ge c N with h0 | h0
        · rw [hR2l c h0] at hc; exact hframe c o (hR c o hc) (fun e => by rw [e, hRs] at hc; cases hc) (fun e => by rw [hRd c e] at hc; cases hc)
        · have h2 : c ≠ cB := fun e => by rw [e, hR2n] at hc; cases hc
          rw [← hR2c c h0 h2]; exact hc
      have htbF := (hown tb (by omega) (by omega)).trans htb6; have hbbF := (hown bb (by omega) (by omega)).trans hbb6; have hinF := (hown N4 (by omega) (by omega)).trans hin6; have hibF := (hown (N4 + 1) (by omega) (by omega)).trans hib6
      have hslF : IsSl HF wB 63 1 (dc ++ [clo (N4 + 1)]) := hslB.at fun c hc => hFB c (by rw [hcB1] at hc; cases hc; exact hcBs)
      have hwA : RdS U R2 wA 2 (ttc (ur ++ [((.slice xp x.2.length xcap), (.slice (some ⟨bb, 0, none⟩) M M))])) := by
        rw [ttc_append]
        have hslA2 := hslA.at (H' := R2) fun c hc => by rw [hcA1] at hc; cases hc; exact hmid cA (by omega) hcA2 (by omega)
        refine hslA2.rds U fun b o hb => ?_
        have h1 := hRF b o hb; rw [← hHF] at h1; exact (hltF b o h1).1
      have hel := Elim.of (ad := adj E) hnd hx1 (fun t ht => hok.mine ht)
      rw [hM] at hel
      have hbs : RdS U R2 (.slice (some ⟨bb, 0, none⟩) M M) 1 (nats ((List.range M).map (beF (adj E) x ts))) := row_rds U hbbB hbbF (by rw [nats_length]; simp) (Nat.le_refl _)
      have hin : RdS U (hiH N R2) (.slice (some ⟨N4, 0, none⟩) M M) 1 (bools ((List.range M).map (inF (adj E) x ts))) := row_rds U (by omega) ((hiH_ge (by omega)).trans hinF) (by rw [bools_length]; simp) (Nat.le_refl _)
      subst hHF
      refine end0 U (.inr rfl) rfl ⟨R2, wA, wB, _, _, _, N4 + 1, _, hel, hRR2, hRF, hR2l, hframe, (by rw [hR2l sb (by omega)]; exact hRs), (fun c hc => by rw [hcB1] at hc; cases hc; exact hR2n), (fun c hc => by rw [hcB1] at hc; cases hc; exact hcB3.imp id (by omega)), (fun h => by rw [hcB1] at h; cases h; exact hcBs rfl), hsy, hwA, (hur.sub U hRR2).push U (hxr.sub U hRR2) hbs, hslF, by omega, hibF, hin, by omega⟩
end Go.Proofs.YtdmodppoellbkaaGreat
